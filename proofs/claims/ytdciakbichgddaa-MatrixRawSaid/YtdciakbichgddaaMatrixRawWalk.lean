/- The walk of the statement MatrixRaw. -/
import Derived.Test.YtdciakbichgddaaMatAny2
import Derived.Test.YtdciakbichgddaaMatProd
import Derived.Deep.DeepCutAuto
import Derived.Deep.CutBlock
namespace Go.Proofs.Ytdciakbichgddaa
open Go Go.RowKit Go.Mem Gf

/-- are the products good? -/
def mulB (rs ss : List (List UInt8)) : Bool := mayB rs && (mayB ss && decide ((rs.getD 0 []).length = ss.length))
/-- what Mul has answered -/
def MulSays (w : World) (rs ss : List (List UInt8)) (v e : Value) : Prop :=
  (mulB rs ss = true ∧ e = .int .i64 0 ∧ Rws w v (rowsL rs.length (ss.getD 0 []).length (MM ss.length (matF rs) (matF ss)))) ∨ (mulB rs ss = false ∧ e = .int .i64 1 ∧ v = .slice none 0 0)

/-- are the rows asked for there? -/
def rowsB (rs : List (List UInt8)) (zs : List Int) : Bool := mayB rs && decide (0 < zs.length) && zs.all fun x => decide (0 ≤ x ∧ x < rs.length)
def pickR (rs : List (List UInt8)) (zs : List Int) : List (List UInt8) := zs.map fun x => rs.getD x.toNat []
def RowsSays (w : World) (rs : List (List UInt8)) (zs : List Int) (v e : Value) : Prop :=
  (rowsB rs zs = true ∧ e = .int .i64 0 ∧ Rws w v (pickR rs zs)) ∨ (rowsB rs zs = false ∧ e = .int .i64 1 ∧ v = .slice none 0 0)
/-- what the law has gathered -/
def GotSays (w : World) (rs : List (List UInt8)) (zs : List Int) (r o : Value) : Prop :=
  (rowsB rs zs = true ∧ r = .bool true ∧ Rws w o (pickR rs zs)) ∨ (rowsB rs zs = false ∧ r = .bool false)
theorem pickR_eq {rs : List (List UInt8)} {zs : List Int} {n m : Nat} (hf : rs = rowsL n m (matF rs)) (hz : ∀ (i : Nat) (x : Int), zs[i]? = some x → 0 ≤ x ∧ x < n) :
    rowsL zs.length m (fun i k => matF rs (zs.getD i 0).toNat k) = pickR rs zs := by
  apply List.ext_getElem
  · simp [rowsL, pickR]
  · intro i h1 h2
    have hi : i < zs.length := by simpa [pickR] using h2
    have hx := hz i zs[i] (by simp [hi])
    simp only [rowsL, List.getElem_map, List.getElem_range, pickR]
    have e : zs.getD i 0 = zs[i] := by simp [List.getD_eq_getElem?_getD, hi]
    have hlt : zs[i].toNat < n := by omega
    have e2 : rs.getD zs[i].toNat [] = rowL m (matF rs zs[i].toNat) := by
      have this : rs.getD zs[i].toNat [] = (rowsL n m (matF rs)).getD zs[i].toNat [] := congrArg (fun l => l.getD zs[i].toNat []) hf
      rw [this, List.getD_eq_getElem?_getD, rowsL_get _ _ _ _ hlt]; rfl
    rw [e, e2]

set_option maxRecDepth 100000 in
set_option maxHeartbeats 20000000 in
theorem matrixRaw_walk (w : World) (va : Value) (ra : List (List UInt8)) (ha : Rws w va ra) (vb : Value) (rb : List (List UInt8)) (hb : Rws w vb rb) (vv : Value) (xs : List UInt8) (hv : Bys w vv xs)
    (vw : Value) (ws : List Int) (hw : Nms w vw ws) (_hwb : ∀ z, z ∈ ws → -9223372036854775808 ≤ z ∧ z ≤ 9223372036854775807) :
    Calls Try.prog 15 #[va, vb, vv, vw] w fun e w' => e = .returned (.bool true) ∧ Below w.heap.size w w' := by
  clear _hwb
  go_enter Try.func15, Try.ntmps15
  go_wp2_with fail
  refine (cut_calls va ra w ha).mono ?_
  rintro e w1 ⟨va', rfl, ha, hb1⟩
  have hb := hb.below hb1
  have hv := hv.below hb1
  have hw := hw.below hb1
  go_wp2_with fail
  refine (cut_calls vb rb w1 hb).mono ?_
  rintro e w2 ⟨vb', rfl, hb, hb2⟩
  have ha := ha.below hb2
  have hv := hv.below hb2
  have hw := hw.below hb2
  have W := Aft.trans hb1 hb2
  clear hb1 hb2
  go_wp2_with fail
  refine (cut8_calls vv xs 18 w2 hv).mono ?_
  rintro e w3 ⟨⟨vv', rfl, hv⟩, rfl⟩
  go_wp2_with fail
  refine (cutI_calls vw ws 8 w2 hw).mono ?_
  rintro e w3 ⟨⟨vw', rfl, hw⟩, rfl⟩
  generalize hrs : cutR ra = rs at *
  generalize hss : cutR rb = ss at *
  have lr : rs.length ≤ 18 := by rw [← hrs]; simp [cutR]; omega
  have ls : ss.length ≤ 18 := by rw [← hss]; simp [cutR]; omega
  clear hrs hss
  generalize hxs : xs.take 18 = ys at *
  have lx : ys.length ≤ 18 := by rw [← hxs]; simp; omega
  clear hxs
  generalize hzs : ws.take 8 = zs at *
  have lz : zs.length ≤ 8 := by rw [← hzs]; simp; omega
  clear hzs
  obtain ⟨aa, ca, rfl⟩ := ha.eq_slice
  obtain ⟨ab, cb, rfl⟩ := hb.eq_slice
  obtain ⟨av, cv, rfl⟩ := hv.eq_slice
  obtain ⟨aw, cw, rfl⟩ := hw.eq_slice
  obtain ⟨la, hla⟩ : ∃ n, n = rs.length := ⟨_, rfl⟩
  obtain ⟨lb, hlb⟩ : ∃ n, n = ss.length := ⟨_, rfl⟩
  obtain ⟨lv, hlv⟩ : ∃ n, n = ys.length := ⟨_, rfl⟩
  obtain ⟨lw, hlw⟩ : ∃ n, n = zs.length := ⟨_, rfl⟩
  rw [← hla] at ha lr ⊢
  rw [← hlb] at hb ls ⊢
  rw [← hlv] at hv lx ⊢
  rw [← hlw] at hw lz ⊢
  have Hla := Lib.hid hla; have Hlb := Lib.hid hlb; have Hlv := Lib.hid hlv; have Hlw := Lib.hid hlw
  clear hla hlb hlv hlw
  go_upto_region 2 with fail
  go_cut [9, 10] (fun v e wx => MulSays wx rs ss v e ∧ Below w2.heap.size w2 wx)
  case first => as_aux_lemma =>
    by_cases h1 : mulB rs ss = true
    · have h2 := h1
      simp only [mulB, Bool.and_eq_true, decide_eq_true_eq] at h2
      obtain ⟨h3, h4, h5⟩ := h2
      obtain ⟨n, m, hf, hn, hm, n1, n2, m1, m2⟩ := mayB_form h3
      obtain ⟨p, q, hg, hp, hq, p1, p2, q1, q2⟩ := mayB_form h4
      rw [hm, hp] at h5
      subst h5
      have hmul := mmul_calls (.slice aa la ca) (.slice ab lb cb) n m q (matF rs) (matF ss) w2 (by rw [← hf]; exact ha) (by rw [← hg]; exact hb) n1 n2 m1 m2 q1 q2
      have Hm := Lib.hid hmul
      have H1 := Lib.hid h1
      have Hn := Lib.hid hn
      have Hp := Lib.hid hp
      have Hq := Lib.hid hq
      clear hmul h1 h3 h4 hf hn hm hg hp hq
      go_wp2_with fail
      refine Hm.out.mono ?_
      rintro e w3 ⟨X, ids, rfl, hO, hb3⟩
      go_wp2_with fail
      go_meet
      refine ⟨.inl ⟨H1.out, rfl, ?_⟩, hb3⟩
      rw [Hn.out, Hp.out, Hq.out]
      exact hO.rws (by omega) (by omega)
    · have h1' : mulB rs ss = false := by simpa using h1
      have hbad : mayB rs = false ∨ (mayB rs = true ∧ mayB ss = false) ∨ (mayB rs = true ∧ mayB ss = true ∧ (rs.getD 0 []).length ≠ ss.length) := by
        unfold mulB at h1'
        cases h2 : mayB rs
        · exact .inl rfl
        · cases h3 : mayB ss
          · exact .inr (.inl ⟨rfl, rfl⟩)
          · rw [h2, h3] at h1'
            simp at h1'
            exact .inr (.inr ⟨rfl, rfl, h1'⟩)
      have hmul := mmul_bad (.slice aa la ca) (.slice ab lb cb) rs ss w2 ha hb hbad
      have Hm := Lib.hid hmul
      have H1 := Lib.hid h1'
      clear hmul h1 h1' hbad
      go_wp2_with fail
      refine Hm.out.mono ?_
      rintro e w3 ⟨rfl, hb3⟩
      go_wp2_with fail
      go_meet
      exact ⟨.inr ⟨H1.out, rfl, rfl⟩, hb3⟩
  case rest =>
    obtain ⟨hms, hbel⟩ := hcut
    have ha := ha.below hbel
    have hb := hb.below hbel
    have hv := hv.below hbel
    have hw := hw.below hbel
    have W := W.trans hbel
    clear hbel
    go_upto_region 3 with fail
    go_cut [11] (fun o wx => o = .bool (mulB rs ss) ∧ Below wc.heap.size wc wx)
    case first => as_aux_lemma =>
      clear hms
      by_cases h1 : mayB rs = true
      · obtain ⟨n, m, hf, hn, hm, n1, n2, m1, m2⟩ := mayB_form h1
        have h0 := rmay_yes (.slice aa la ca) n m (matF rs) wc (by rw [← hf]; exact ha) n1 n2 m1 m2
        have ha' := ha
        rw [hf] at ha'
        have hlan := Hla.out
        rw [hn] at hlan
        subst hlan
        obtain ⟨ba, oa, a0, ca0, rfl, c0, _⟩ := ha'.row 0 (by omega)
        have c0' : wc.cell? ⟨ba, oa, none⟩ = some (.slice a0 m ca0) := c0
        have l0 : 0 < la := by omega
        have l0' : (0 : Int) < (la : Int) := by omega
        have H0 := Lib.hid h0
        clear c0 h0 ha'
        by_cases h2 : mayB ss = true
        · obtain ⟨p, q, hg, hp, hq, p1, p2, q1, q2⟩ := mayB_form h2
          have k0 := fun d => rmay_yes (.slice ab lb cb) p q (matF ss) (wc.drewN d) (by rw [← hg]; exact hb.drewN d) p1 p2 q1 q2
          have K0 := Lib.hid k0
          have hmul : mulB rs ss = decide (m = lb) := by rw [mulB, h1, h2, hm, ← Hlb.out]; rfl
          have Hmul := Lib.hid hmul
          clear k0 hf hn hm h1 h2 hg hp hq hmul
          by_cases h3 : m = lb
          · have t1 : ((m : Int) == (lb : Int)) = true := by rw [h3]; simp
            have t2 : (m == lb) = true := by rw [h3]; simp
            have H3 := Lib.hid h3
            clear h3
            go_wp2_with fail
            refine H0.out.mono ?_
            rintro e w3 ⟨rfl, d, rfl⟩
            go_wp2_with fail
            refine (K0.out d).mono ?_
            rintro e w3 ⟨rfl, d2, rfl⟩
            go_wp2_with fail
            go_meet
            exact ⟨by rw [Hmul.out, decide_eq_true H3.out], below_drewN (Below.refl _ _) _⟩
          · have t1 : ((m : Int) == (lb : Int)) = false := by simp; omega
            have t2 : (m == lb) = false := by simp; omega
            have H3 := Lib.hid h3
            clear h3
            go_wp2_with fail
            refine H0.out.mono ?_
            rintro e w3 ⟨rfl, d, rfl⟩
            go_wp2_with fail
            refine (K0.out d).mono ?_
            rintro e w3 ⟨rfl, d2, rfl⟩
            go_wp2_with fail
            go_meet
            exact ⟨by rw [Hmul.out, decide_eq_false H3.out], below_drewN (Below.refl _ _) _⟩
        · have h2' : mayB ss = false := by simpa using h2
          have k0 := fun d => rmay_no (.slice ab lb cb) ss (wc.drewN d) (hb.drewN d) h2'
          have K0 := Lib.hid k0
          have hmul : mulB rs ss = false := by rw [mulB, h1, h2']; rfl
          have Hmul := Lib.hid hmul
          clear k0 hf hn hm h1 h2 h2' hmul
          go_wp2_with fail
          refine H0.out.mono ?_
          rintro e w3 ⟨rfl, d, rfl⟩
          go_wp2_with fail
          refine (K0.out d).mono ?_
          rintro e w3 ⟨rfl, d2, rfl⟩
          go_wp2_with fail
          go_meet
          exact ⟨by rw [Hmul.out], below_drewN (Below.refl _ _) _⟩
      · have h1' : mayB rs = false := by simpa using h1
        have h0 := rmay_no (.slice aa la ca) rs wc ha h1'
        have H0 := Lib.hid h0
        have hmul : mulB rs ss = false := by rw [mulB, h1']; rfl
        have Hmul := Lib.hid hmul
        clear h0 h1 h1' hmul
        go_wp2_with fail
        refine H0.out.mono ?_
        rintro e w3 ⟨rfl, d, rfl⟩
        go_wp2_with fail
        go_meet
        exact ⟨by rw [Hmul.out], below_drewN (Below.refl _ _) _⟩
    case rest =>
      obtain ⟨hok, hbel⟩ := hcut
      subst hok
      have ha := ha.below hbel
      have hb := hb.below hbel
      have hv := hv.below hbel
      have hw := hw.below hbel
      have W := W.trans hbel
      have hms : MulSays wc rs ss u9 u10 := by
        rcases hms with ⟨h1, h2, h3⟩ | h1
        · exact .inl ⟨h1, h2, h3.below hbel⟩
        · exact .inr h1
      clear hbel
      go_upto_if 51 with fail
      go_cut [9, 10, 11] (fun _ _ _ wx => Below wc.heap.size wc wx)
      case first => as_aux_lemma =>
        rcases hms with ⟨h1, rfl, hp⟩ | ⟨h1, rfl, rfl⟩
        · have h2 := h1
          simp only [mulB, Bool.and_eq_true, decide_eq_true_eq] at h2
          obtain ⟨h3, h4, h5⟩ := h2
          obtain ⟨n, m, hf, hn, hm, n1, n2, m1, m2⟩ := mayB_form h3
          obtain ⟨p, q, hg, hp', hq, p1, p2, q1, q2⟩ := mayB_form h4
          rw [hm, hp'] at h5
          subst h5
          have hpr := rproduct_calls (.slice aa la ca) (.slice ab lb cb) n m q (matF rs) (matF ss) wc (by rw [← hf]; exact ha) (by rw [← hg]; exact hb) n2 m1 m2 q2
          have Hpr := Lib.hid hpr
          rw [h1]
          rw [hn, hp', hq] at hp
          obtain ⟨ax, cx, rfl⟩ := hp.mat
          clear hpr h1 h3 h4 hf hn hm hg hp' hq
          go_wp2_with fail
          refine Hpr.out.mono ?_
          rintro e w3 ⟨vr, rfl, hr, hb3⟩
          go_wp2_with fail
          refine (rows8_yes _ _ _ _ _ (hp.below hb3) hr rfl).mono ?_
          rintro e w4 ⟨rfl, d, rfl⟩
          go_wp2_with fail
          go_meet
          exact below_drewN hb3 d
        · rw [h1]
          clear h1
          go_wp2_with fail
          go_meet
          exact Below.refl _ _
      case rest =>
        have ha := ha.below hcut
        have hb := hb.below hcut
        have hv := hv.below hcut
        have hw := hw.below hcut
        have W := W.trans hcut
        clear hcut hms hb
        go_upto_region 9 with fail
        go_cut [12, 13] (fun v e wx => RowsSays wx rs zs v e ∧ Below wc.heap.size wc wx)
        case first => as_aux_lemma =>
          by_cases h1 : rowsB rs zs = true
          · have h2 := h1
            simp only [rowsB, Bool.and_eq_true, decide_eq_true_eq, List.all_eq_true] at h2
            obtain ⟨⟨h3, h4⟩, h5⟩ := h2
            obtain ⟨n, m, hf, hn, hm, n1, n2, m1, m2⟩ := mayB_form h3
            have hz : ∀ (i : Nat) (x : Int), zs[i]? = some x → 0 ≤ x ∧ x < n := fun i x hi => by
              have := h5 x (List.mem_of_getElem? hi)
              rw [hn] at this; exact this
            have hrw := mrows_calls (.slice aa la ca) (.slice aw lw cw) n m (matF rs) zs wc (by rw [← hf]; exact ha) hw n1 n2 m1 m2 (by omega) (by have := Hlw.out; omega) hz
            rw [← Hlw.out] at hrw
            have heq := pickR_eq hf hz
            rw [← Hlw.out] at heq
            have Hrw := Lib.hid hrw
            have Heq := Lib.hid heq
            have H1 := Lib.hid h1
            clear hrw h1 h3 h5 hf hn hm hz heq h4
            go_wp2_with fail
            refine Hrw.out.mono ?_
            rintro e w3 ⟨X, ids, rfl, hO, hb3⟩
            go_wp2_with fail
            go_meet
            exact ⟨.inl ⟨H1.out, rfl, by rw [← Heq.out]; exact hO.rws (by omega) (by omega)⟩, hb3⟩
          · have h1' : rowsB rs zs = false := by simpa using h1
            have hbad : mayB rs = false ∨ (mayB rs = true ∧ zs = []) ∨ (mayB rs = true ∧ zs ≠ [] ∧ ∃ x, x ∈ zs ∧ (x < 0 ∨ (rs.length : Int) ≤ x)) := by
              cases h2 : mayB rs
              · exact .inl rfl
              · by_cases h3 : zs = []
                · exact .inr (.inl ⟨rfl, h3⟩)
                · refine .inr (.inr ⟨rfl, h3, Classical.byContradiction fun hn => h1 ?_⟩)
                  have hpos : 0 < zs.length := List.length_pos_iff.2 h3
                  simp only [rowsB, h2, Bool.true_and, Bool.and_eq_true, decide_eq_true_eq, List.all_eq_true]
                  exact ⟨hpos, fun x hx => Classical.byContradiction fun hc => hn ⟨x, hx, by omega⟩⟩
            have hrw := mrows_bad (.slice aa la ca) (.slice aw lw cw) rs zs wc ha hw (by have := Hlw.out; omega) hbad
            have Hrw := Lib.hid hrw
            have H1 := Lib.hid h1'
            clear hrw h1 h1' hbad
            go_wp2_with fail
            refine Hrw.out.mono ?_
            rintro e w3 ⟨rfl, hb3⟩
            go_wp2_with fail
            go_meet
            exact ⟨.inr ⟨H1.out, rfl, rfl⟩, hb3⟩
        case rest =>
          obtain ⟨hrs, hbel⟩ := hcut
          have ha := ha.below hbel
          have hv := hv.below hbel
          have hw := hw.below hbel
          have W := W.trans hbel
          clear hbel
          go_upto_region 10 with fail
          go_cut [14] (fun o wx => o = .bool (mayB rs && decide (0 < zs.length)) ∧ Below wc.heap.size wc wx)
          case first => as_aux_lemma =>
            clear hrs
            by_cases h1 : mayB rs = true
            · obtain ⟨n, m, hf, hn, hm, n1, n2, m1, m2⟩ := mayB_form h1
              have h0 := rmay_yes (.slice aa la ca) n m (matF rs) wc (by rw [← hf]; exact ha) n1 n2 m1 m2
              have H0 := Lib.hid h0
              have H1 := Lib.hid h1
              clear h0 h1 hf hn hm
              go_wp2_with fail
              refine H0.out.mono ?_
              rintro e w3 ⟨rfl, d, rfl⟩
              go_wp2_with fail
              go_meet
              exact ⟨by rw [H1.out, Bool.true_and, ← Hlw.out], below_drewN (Below.refl _ _) _⟩
            · have h1' : mayB rs = false := by simpa using h1
              have h0 := rmay_no (.slice aa la ca) rs wc ha h1'
              have H0 := Lib.hid h0
              have H1 := Lib.hid h1'
              clear h0 h1 h1'
              go_wp2_with fail
              refine H0.out.mono ?_
              rintro e w3 ⟨rfl, d, rfl⟩
              go_wp2_with fail
              go_meet
              exact ⟨by simp [H1.out], below_drewN (Below.refl _ _) _⟩
          case rest =>
            obtain ⟨hok, hbel⟩ := hcut
            subst hok
            have ha := ha.below hbel
            have hv := hv.below hbel
            have hw := hw.below hbel
            have W := W.trans hbel
            have hrs : RowsSays wc rs zs u12 u13 := by
              rcases hrs with ⟨h1, h2, h3⟩ | h1
              · exact .inl ⟨h1, h2, h3.below hbel⟩
              · exact .inr h1
            clear hbel
            obtain ⟨g, hg⟩ : ∃ g, g = (mayB rs && decide (0 < zs.length)) := ⟨_, rfl⟩
            rw [← hg]
            have Hg := Lib.hid hg
            clear hg
            go_upto_block 0 with fail
            go_cut [14, 15] (fun r o wx => GotSays wx rs zs r o ∧ Below wc.heap.size wc wx)
            case first => as_aux_lemma =>
              clear hrs
              go_wp2_with fail
              go_loopw [14, 15, 84] (fun r o v wi => ∃ (j : Nat) (vs : List Value), j ≤ lw ∧ v = .int .i64 j ∧ r = .bool g ∧ wi.ownsRow wc.heap.size 31 1 o j vs ∧
                  (∀ (q : Nat) (x : List UInt8), (pickR rs (zs.take j))[q]? = some x → ∃ v', vs[q]? = some v' ∧ Bys wc v' x) ∧ (∀ x, x ∈ zs.take j → 0 ≤ x ∧ x < (la : Int)) ∧ (0 < j → mayB rs = true) ∧ Below wc.heap.size wc wi)
                (fun _ _ v _ => lw - (intOf v).toNat)
              case atStart => exact ⟨0, [], by omega, rfl, rfl, World.ownsRow_nil _ _ _ _, fun q x hq => by simp [pickR] at hq, fun x hx => by simp at hx, fun h => by omega, Below.refl _ _⟩
              case round =>
                obtain ⟨j, vs, hj, rfl, rfl, hown, hvs, hin, hj0, hbel⟩ := hrel
                have Hvs := Lib.hid hvs; have Hin := Lib.hid hin; have Hj0 := Lib.hid hj0
                clear hvs hin hj0
                have hs := hbel.size
                by_cases h0 : j < lw
                · by_cases h1 : mayB rs = true
                  · have hgt : g = true := by rw [Hg.out, h1, ← Hlw.out]; simp; omega
                    rw [hgt]
                    have H1 := Lib.hid h1
                    have Hgt := Lib.hid hgt
                    clear h1 hgt
                    obtain ⟨b, off, x, rfl, Hx, c1⟩ := (hw.below hbel).at j (by have := Hlw.out; omega)
                    by_cases hx0 : x < 0
                    · have HB : Hid (rowsB rs zs = false) := by
                        show _ = _
                        rw [rowsB, Bool.and_eq_false_iff]
                        right
                        rw [List.all_eq_false]
                        exact ⟨x, List.mem_of_getElem? Hx.out, by simp; omega⟩
                      go_wp2_with fail
                      go_meet
                      exact ⟨.inr ⟨HB.out, rfl⟩, hbel⟩
                    · by_cases hx1 : x < (la : Int)
                      · have t1 : decide ((la : Int) ≤ x) = false := by simp; omega
                        obtain ⟨y, rfl⟩ : ∃ y : Nat, x = y := ⟨x.toNat, by omega⟩
                        have hy : y < la := by omega
                        obtain ⟨ba, oa, r, v', rfl, Hr, c2, hr⟩ := ha.at y (by have := Hla.out; omega)
                        have lt2 := World.block_lt_of_cell? wc _ c2
                        have c2' : wr.cell? ⟨ba, oa + y, none⟩ = some v' := (hbel.cell (p := ⟨ba, oa + y, none⟩) lt2).trans c2
                        obtain ⟨rr, rc, e⟩ := hr.eq_slice
                        generalize hlr : r.length = lr' at e
                        subst e
                        clear c2 hlr
                        go_wp2_with (at_builtin; refine app_one ER rfl _ _ rfl (.slice rr lr' rc) rfl rfl ?c1 rfl hown ?c2 (by decide) ?c3 ?_)
                        case c1 => rfl
                        case c2 => omega
                        intro v2 w3 hown' hgrow
                        go_wp2_with fail
                        refine ⟨⟨j + 1, vs ++ [.slice rr lr' rc], by omega, by go_num, by first | rfl | rw [Hgt.out], hown', fun q x hq => ?_, fun x hx => ?_, fun _ => H1.out, Below.grown hbel hgrow hs (fun b hb => (hown.lt b hb).1)⟩, by simp [intOf]; omega⟩
                        · have hvl : vs.length = j := by have := hown.1; omega
                          have hzl : (zs.take j).length = j := by simp; have := Hlw.out; omega
                          have he : pickR rs (zs.take (j + 1)) = pickR rs (zs.take j) ++ [r] := by
                            have e2 : rs.getD y [] = r := by rw [List.getD_eq_getElem?_getD, Hr.out]; rfl
                            unfold pickR
                            rw [List.take_add_one, Hx.out, List.map_append]
                            simp only [Option.toList_some, List.map_cons, List.map_nil, Int.toNat_natCast, e2]
                          rw [he] at hq
                          have hpl : (pickR rs (zs.take j)).length = j := by rw [pickR, List.length_map, hzl]
                          rcases Nat.lt_or_ge q j with hqj | hqj
                          · rw [List.getElem?_append_left (by omega)] at hq
                            obtain ⟨v3, h3, h4⟩ := Hvs.out q x hq
                            exact ⟨v3, by rw [List.getElem?_append_left (by omega)]; exact h3, h4⟩
                          · rw [List.getElem?_append_right (by omega)] at hq
                            have hq0 : q - (pickR rs (zs.take j)).length = 0 := by
                              rcases Nat.eq_zero_or_pos (q - (pickR rs (zs.take j)).length) with h | h
                              · exact h
                              · rw [List.getElem?_eq_none (by simp; omega)] at hq; cases hq
                            rw [hq0] at hq
                            simp at hq
                            subst hq
                            exact ⟨.slice rr lr' rc, by rw [List.getElem?_append_right (by omega), show q - vs.length = 0 from by omega]; rfl, hr⟩
                        · rw [List.take_add_one, Hx.out] at hx
                          rcases List.mem_append.1 hx with hx | hx
                          · exact Hin.out x hx
                          · simp at hx; omega
                      · have t1 : decide ((la : Int) ≤ x) = true := by simp; omega
                        have HB : Hid (rowsB rs zs = false) := by
                          show _ = _
                          rw [rowsB, Bool.and_eq_false_iff]
                          right
                          rw [List.all_eq_false]
                          exact ⟨x, List.mem_of_getElem? Hx.out, by have := Hla.out; simp; omega⟩
                        go_wp2_with fail
                        go_meet
                        exact ⟨.inr ⟨HB.out, rfl⟩, hbel⟩
                  · have h1' : mayB rs = false := by simpa using h1
                    have hgt : g = false := by rw [Hg.out, h1']; rfl
                    have HB : Hid (rowsB rs zs = false) := by
                      show _ = _
                      rw [rowsB, h1']; rfl
                    rw [hgt]
                    clear h1 h1' hgt
                    go_wp2_with fail
                    go_meet
                    exact ⟨.inr ⟨HB.out, rfl⟩, hbel⟩
                · obtain rfl : lw = j := by omega
                  by_cases hgt : g = true
                  · have hg2 := Hg.out
                    rw [hgt] at hg2
                    have hg3 := hg2.symm
                    simp only [Bool.and_eq_true, decide_eq_true_eq] at hg3
                    have ht : zs.take lw = zs := List.take_of_length_le (by have := Hlw.out; omega)
                    have HB : Hid (rowsB rs zs = true) := by
                      show _ = _
                      rw [rowsB, hg2.symm, Bool.true_and, List.all_eq_true]
                      intro x hx
                      have := Hin.out x (by rw [ht]; exact hx)
                      have := Hla.out
                      simp; omega
                    have HR : Hid (Rws wr u15 (pickR rs zs)) := by
                      have hpl : (pickR rs zs).length = lw := by rw [pickR, List.length_map, Hlw.out]
                      exact rws_of_own hown hpl fun q x hq => by
                        have hv := Hvs.out q x (by rw [ht]; exact hq)
                        obtain ⟨v3, h3, h4⟩ := hv
                        exact ⟨v3, h3, h4.below hbel⟩
                    rw [hgt]
                    clear hgt hg2 hg3 ht
                    go_wp2_with fail
                    go_meet
                    exact ⟨.inl ⟨HB.out, rfl, HR.out⟩, hbel⟩
                  · have hgf : g = false := by simpa using hgt
                    have HB : Hid (rowsB rs zs = false) := by
                      show _ = _
                      rw [rowsB, ← Hg.out, hgf]; rfl
                    rw [hgf]
                    clear hgt hgf
                    go_wp2_with fail
                    go_meet
                    exact ⟨.inr ⟨HB.out, rfl⟩, hbel⟩
            case rest =>
              obtain ⟨hgot, hbel⟩ := hcut
              have ha := ha.below hbel
              have hv := hv.below hbel
              have W := W.trans hbel
              have hrs : RowsSays wc rs zs u12 u13 := by
                rcases hrs with ⟨h1, h2, h3⟩ | h1
                · exact .inl ⟨h1, h2, h3.below hbel⟩
                · exact .inr h1
              clear hbel hw Hg
              go_upto_region 19 with fail
              go_cut [139] (fun o wx => o = .bool false ∧ Below wc.heap.size wc wx)
              case first => as_aux_lemma =>
                rcases hgot with ⟨h1, rfl, hr⟩ | ⟨h1, rfl⟩
                · rcases hrs with ⟨h2, rfl, hq⟩ | ⟨h2, rfl, rfl⟩
                  · obtain ⟨a1, c1, rfl⟩ := hr.eq_slice
                    obtain ⟨a2, c2, rfl⟩ := hq.eq_slice
                    generalize hpl : (pickR rs zs).length = pl at *
                    clear h1 h2 hpl
                    go_wp2_with fail
                    refine (rows8_yes _ _ _ _ _ hq hr rfl).mono ?_
                    rintro e w4 ⟨rfl, d, rfl⟩
                    go_wp2_with fail
                    go_meet
                    exact ⟨rfl, below_drewN (Below.refl _ _) d⟩
                  · rw [h1] at h2; cases h2
                · rcases hrs with ⟨h2, rfl, hq⟩ | ⟨h2, rfl, rfl⟩
                  · rw [h1] at h2; cases h2
                  · clear h1 h2
                    go_wp2_with fail
                    go_meet
                    exact ⟨rfl, Below.refl _ _⟩
              case rest =>
                obtain ⟨hfl, hbel⟩ := hcut
                subst hfl
                have ha := ha.below hbel
                have hv := hv.below hbel
                have W := W.trans hbel
                clear hbel hrs hgot
                go_wp2_with fail
                by_cases h1 : mayB rs = true
                · obtain ⟨n, m, hf, hn, hm, n1, n2, m1, m2⟩ := mayB_form h1
                  have hlan := Hla.out
                  rw [hn] at hlan
                  subst hlan
                  by_cases h2 : m = lv
                  · subst h2
                    have hx := list_rowL ys m Hlv.out.symm
                    have ha' := ha
                    rw [hf] at ha'
                    have hv' := hv
                    rw [hx] at hv'
                    have hap := apply_calls (.slice aa la ca) (.slice av m cv) la m (matF rs) (fun k => ys.getD k 0) wc ha' hv' n1 n2 m1 m2
                    have h0 := fun (wx : World) (hb : Below wc.heap.size wc wx) => rmay_yes (.slice aa la ca) la m (matF rs) wx (ha'.below hb) n1 n2 m1 m2
                    obtain ⟨ba, oa, a0, ca0, rfl, c0, _⟩ := ha'.row 0 (by omega)
                    have c0' : wc.cell? ⟨ba, oa, none⟩ = some (.slice a0 m ca0) := c0
                    have lt0 := World.block_lt_of_cell? wc _ c0'
                    have l0 : 0 < la := by omega
                    have l0' : (0 : Int) < (la : Int) := by omega
                    have t1 : ((m : Int) != (m : Int)) = false := by simp
                    have t2 : (m != m) = false := by simp
                    generalize (fun k => ys.getD k 0) = f at *
                    have Hap := Lib.hid hap
                    have H0 := Lib.hid h0
                    have C0 := Lib.hid c0'
                    clear hap h0 c0 c0' hf hn hm h1 hv hx Hlv Hlw
                    refine Hap.out.mono ?_
                    rintro e w3 ⟨xb, rfl, hxb, hb3⟩
                    go_wp2_with fail
                    refine (H0.out w3 hb3).mono ?_
                    rintro e w4 ⟨rfl, d, rfl⟩
                    have hb4 := below_drewN hb3 d
                    have c0 : (w3.drewN d).cell? ⟨ba, oa, none⟩ = some (.slice a0 m ca0) := (hb4.cell (p := ⟨ba, oa, none⟩) lt0).trans C0.out
                    have ha4 := ha'.below hb4
                    have hv4 := hv'.below hb4
                    have W4 := W.trans hb4
                    have hxb := hxb.drewN d
                    generalize w3.drewN d = w4 at *
                    clear hb4 hb3 ha ha' hv' W
                    go_wp2_with fail
                    go_loopw [19, 170] (fun r v wi => ∃ j : Nat, j ≤ la ∧ v = .int .i64 j ∧ OwnB 5 wi w4.heap.size r (rowL j (MV m (matF rs) f)) ∧ Below w4.heap.size w4 wi) (fun _ v _ => la - (intOf v).toNat)
                    case atStart => exact ⟨0, by omega, rfl, OwnB.nil _ _ _, Below.refl _ _⟩
                    case round =>
                      obtain ⟨j, hj, rfl, hr, hbi⟩ := hrel
                      have hsi := hbi.size
                      by_cases hjl : j < la
                      · obtain ⟨ra, rc, e7⟩ := hr.eq_slice
                        rw [rowL_len] at e7
                        subst e7
                        have ha5 := ha4.below hbi
                        have hv5 := hv4.below hbi
                        obtain ⟨b2, o2, r2, c2, e, c3, hra⟩ := ha5.row j hjl
                        injection e with e
                        injection e with e1 e2
                        subst e1 e2
                        go_wp2_with fail
                        refine (rdot_calls _ _ _ _ _ hra hv5).mono ?_
                        rintro e w5 ⟨rfl, d5, rfl⟩
                        rw [gdot_rowL, show dotf m (matF rs j) f = MV m (matF rs) f j from rfl]
                        go_wp2_with (at_builtin; refine appG_byte E8 rfl _ _ rfl (MV m (matF rs) f j) rfl rfl ?e1 ((hr.below ((Below.refl _ _).alloc (Nat.le_refl _) _)).drewN d5) ?e2 ?e3 ?_)
                        case e1 => exact new_cell wr _ _ _ rfl
                        case e2 => rw [rowL_len]; omega
                        case e3 => simp; omega
                        intro v' w6 hown' hgrow
                        go_wp2_with fail
                        exact ⟨⟨j + 1, by omega, by go_num, by rw [rowL_succ]; exact hown', Below.grown (below_drewN (hbi.alloc hsi _) d5) hgrow (by simp; omega) (fun b hb => (hr.lt b hb).1)⟩, by simp [intOf]; omega⟩
                      · obtain rfl : la = j := by omega
                        have hxb := hxb.below hbi
                        have W4 := W4.trans hbi
                        obtain ⟨ra, rc, e7⟩ := hr.eq_slice
                        rw [rowL_len] at e7
                        subst e7
                        have hy := hr.bys
                        go_wp2_with fail
                        refine (same8_yes _ _ _ _ _ hxb hy rfl).mono ?_
                        rintro e w7 ⟨rfl, d7, rfl⟩
                        go_wp2_with fail
                        refine (wakes05_calls _).mono ?_
                        rintro e w13 ⟨rfl, hb5⟩
                        go_wp2
                        go_ret
                        exact ⟨rfl, (W4.drewN d7).trans hb5⟩
                  · have t1 : ((m : Int) != (lv : Int)) = true := by simp; omega
                    have t2 : (m != lv) = true := by simp; omega
                    have ha' := ha
                    rw [hf] at ha'
                    have hap := apply_bad (.slice aa la ca) (.slice av lv cv) rs ys wc ha hv (.inr ⟨h1, by rw [hm, ← Hlv.out]; exact h2⟩)
                    have h0 := rmay_yes (.slice aa la ca) la m (matF rs) wc ha' n1 n2 m1 m2
                    obtain ⟨ba, oa, a0, ca0, rfl, c0, _⟩ := ha'.row 0 (by omega)
                    have c0' : wc.cell? ⟨ba, oa, none⟩ = some (.slice a0 m ca0) := c0
                    have l0 : 0 < la := by omega
                    have l0' : (0 : Int) < (la : Int) := by omega
                    have Hap := Lib.hid hap
                    have H0 := Lib.hid h0
                    clear hap h0 c0 hf hn hm h1 h2
                    refine Hap.out.mono ?_
                    rintro e w3 ⟨rfl, rfl⟩
                    go_wp2_with fail
                    refine H0.out.mono ?_
                    rintro e w3 ⟨rfl, d, rfl⟩
                    go_wp2_with fail
                    refine (wakes05_calls _).mono ?_
                    rintro e w13 ⟨rfl, hb5⟩
                    go_wp2
                    go_ret
                    exact ⟨rfl, (W.drewN d).trans hb5⟩
                · have h1' : mayB rs = false := by simpa using h1
                  have hap := apply_bad (.slice aa la ca) (.slice av lv cv) rs ys wc ha hv (.inl h1')
                  have h0 := rmay_no (.slice aa la ca) rs wc ha h1'
                  have Hap := Lib.hid hap
                  have H0 := Lib.hid h0
                  clear hap h0 h1 h1'
                  refine Hap.out.mono ?_
                  rintro e w3 ⟨rfl, rfl⟩
                  go_wp2_with fail
                  refine H0.out.mono ?_
                  rintro e w3 ⟨rfl, d, rfl⟩
                  go_wp2_with fail
                  refine (wakes05_calls _).mono ?_
                  rintro e w13 ⟨rfl, hb5⟩
                  go_wp2
                  go_ret
                  exact ⟨rfl, (W.drewN d).trans hb5⟩
end Go.Proofs.Ytdciakbichgddaa
