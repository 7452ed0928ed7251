/- The abstract view, further operations: division, equality of flat aggregates, the greater of two; views of blocks that lie apart. -/
import Derived.Test.YtapelipehckbcaaAvK
import Derived.Laws.StructEq
import Derived.ChangeKeysEq
set_option linter.unusedSimpArgs false
namespace Go.AV

theorem View.set_none {V : View} {b c : Nat} {o : AObj} : (V.set b o) c = none ↔ c ≠ b ∧ V c = none := by
  by_cases h : c = b <;> simp [View.set, h]
theorem View.le_set {V₀ V : View} {b : Nat} {o : AObj} (h : V₀.le V) (hb : V₀ b = none) : V₀.le (V.set b o) := by
  intro c x hc
  have : c ≠ b := by rintro rfl; rw [hb] at hc; cases hc
  rw [View.set_other _ _ this]; exact h c x hc
theorem View.le_drop {V₀ V : View} {b : Nat} (h : V₀.le V) (hb : V₀ b = none) : V₀.le (V.drop b) := by
  intro c x hc
  have : c ≠ b := by rintro rfl; rw [hb] at hc; cases hc
  rw [View.drop_other _ this]; exact h c x hc
theorem View.le_self_set {V : View} {b : Nat} {o : AObj} (hb : V b = none) : V.le (V.set b o) := View.le_set (View.le_refl V) hb
theorem View.ne_of {V : View} {b c : Nat} {o : AObj} (h : V b = some o) (k : V c = none) : b ≠ c := by rintro rfl; rw [h] at k; cases k

variable {ρ : Option Nat} {P : Program} {Q : AQ} {st : ASt} {V : View} {o : Oper} {ops : Array Oper} {rest : List Oper}
  {d : Option Tmp} {ty : TypeId} {pos : String} {aft : Array Edge} {gd : Option (Nat × Bool)}

/-- A code ahead of another, with what holds between them. -/
theorem a_cut {x y : Code} (K : ASt → View → Prop) (h : ATrip ρ P x (thenA K Q) st V) (k : ∀ st' V', K st' V' → ATrip ρ P y Q st' V') : ATrip ρ P (.seq x y) Q st V :=
  a_seq (h.mono fun e st' V' hq => by cases e <;> first | exact k _ _ hq | exact hq)

theorem s_quo {t t' : TypeId} {y z : Operand} {k : IntKind} {i j : Int} (hy : Ev st y (.v (.int k i))) (hz : Ev st z (.v (.int k j))) (hj : j ≠ 0) :
    OpS ρ P ⟨d, .binOp .quo t y z t', ty, pos, aft, gd⟩ st V (One (.v (.int k (k.wrap (i.tdiv j)))) V) :=
  opS_pure (by intro c h; cases h) fun m a w s q => by
    have hv : a.eval y = .int k i := by simpa [Tr] using hy m a q
    have hi : a.eval z = .int k j := by simpa [Tr] using hz m a q
    exact ⟨.int k (k.wrap (i.tdiv j)), w, by simp [execOp, hv, hi, eqGuard, binOp, Op.intDiv, hj], rfl, by simp [Tr]⟩
theorem s_rem {t t' : TypeId} {y z : Operand} {k : IntKind} {i j : Int} (hy : Ev st y (.v (.int k i))) (hz : Ev st z (.v (.int k j))) (hj : j ≠ 0) :
    OpS ρ P ⟨d, .binOp .rem t y z t', ty, pos, aft, gd⟩ st V (One (.v (.int k (i.tmod j))) V) :=
  opS_pure (by intro c h; cases h) fun m a w s q => by
    have hv : a.eval y = .int k i := by simpa [Tr] using hy m a q
    have hi : a.eval z = .int k j := by simpa [Tr] using hz m a q
    exact ⟨.int k (i.tmod j), w, by simp [execOp, hv, hi, eqGuard, binOp, Op.intDiv, hj], rfl, by simp [Tr]⟩
theorem s_max {t t' : TypeId} {y z : Operand} {k : IntKind} {i j : Int} (hy : Ev st y (.v (.int k i))) (hz : Ev st z (.v (.int k j))) :
    OpS ρ P ⟨d, .call ⟨.builtin .max, #[y, z], #[t, t']⟩, ty, pos, aft, gd⟩ st V (One (.v (.int k (max i j))) V) :=
  opS_pure (by intro c h; cases h) fun m a w s q => by
    have hv : a.eval y = .int k i := by simpa [Tr] using hy m a q
    have hi : a.eval z = .int k j := by simpa [Tr] using hz m a q
    have e : (if j > i then j else i) = max i j := by split <;> omega
    exact ⟨.int k (if j > i then j else i), w, by simp [execOp, resolve, invoke, builtin, hv, hi, Builtin.max_, Builtin.max2, Sem.run_bind, Result.andThen], rfl, by simp only [Tr, e]⟩

theorem s_pickand {c y : Operand} {a b : Bool} (hc : Ev st c (.v (.bool a))) (hy : Ev st y (.cond (a = true) (.v (.bool b)))) :
    OpS ρ P ⟨d, .pick c y (.const (.bool false)), ty, pos, aft, gd⟩ st V (One (.v (.bool (a && b))) V) :=
  s_pick hc (fun h => by subst h; exact ev_cond hy rfl) (fun h => by subst h; exact ev_c)
theorem s_pickor {c y : Operand} {a b : Bool} (hc : Ev st c (.v (.bool a))) (hy : Ev st y (.cond (a = false) (.v (.bool b)))) :
    OpS ρ P ⟨d, .pick c (.const (.bool true)) y, ty, pos, aft, gd⟩ st V (One (.v (.bool (a || b))) V) :=
  s_pick hc (fun h => by subst h; exact ev_c) (fun h => by subst h; exact ev_cond hy rfl)

theorem d_v {U : View} {d : Tmp} {op : Op} {r : List (Oper × Bool)} {l : List (Nat × AVal)} {n : Nat} {x : AVal}
    (h : ∀ V', U.le V' → OpF ρ P ops ⟨some d, op, ty, pos, aft, gd⟩ (ASt.only ⟨l, n⟩ ops ⟨some d, op, ty, pos, aft, gd⟩) V' x) (k : DrawIn ρ P ops U Q r ⟨(d, x) :: l, n⟩ V) :
    DrawIn ρ P ops U Q ((⟨some d, op, ty, pos, aft, gd⟩, false) :: r) ⟨l, n⟩ V := by rw [DrawIn]; exact ⟨x, h, k⟩
theorem d_e {U : View} {op : Op} {r : List (Oper × Bool)} {x : AVal} {V' : View}
    (h : OpS ρ P ⟨none, op, ty, pos, aft, none⟩ (st.only ops ⟨none, op, ty, pos, aft, none⟩) V (One x V')) (hU : U.le V') (k : DrawIn ρ P ops U Q r st V') :
    DrawIn ρ P ops U Q ((⟨none, op, ty, pos, aft, none⟩, true) :: r) st V := by
  rw [DrawIn]
  exact ⟨.inl rfl, fun m a w s q next Q' hn => h m a w s q next Q' fun v m' w' x' V'' hp => by
      obtain ⟨rfl, rfl⟩ := hp; exact hn v m' w' _ _ ⟨U, .inl rfl, hU, k⟩⟩
/-- What is done when all ahead of it is done: what is kept may change. -/
theorem d_b {U : View} {op : Op} {r : List (Oper × Bool)} {x : AVal} {V' : View}
    (h : OpS ρ P ⟨none, op, ty, pos, aft, none⟩ (st.only ops ⟨none, op, ty, pos, aft, none⟩) V (One x V')) (hf : fullB ops (ops.size - r.length - 1) = true) (U' : View) (hU : U'.le V') (k : DrawIn ρ P ops U' Q r st V') :
    DrawIn ρ P ops U Q ((⟨none, op, ty, pos, aft, none⟩, true) :: r) st V := by
  rw [DrawIn]
  exact ⟨.inl rfl, fun m a w s q next Q' hn => h m a w s q next Q' fun v m' w' x' V'' hp => by
      obtain ⟨rfl, rfl⟩ := hp; exact hn v m' w' _ _ ⟨U', .inr hf, hU, k⟩⟩
theorem d_vp {U : View} {d : Tmp} {op : Op} {r : List (Oper × Bool)} {l : List (Nat × AVal)} {n : Nat} {Post : AVal → View → Prop}
    (h : OpS ρ P ⟨some d, op, ty, pos, aft, none⟩ (ASt.only ⟨l, n⟩ ops ⟨some d, op, ty, pos, aft, none⟩) V Post) (k : ∀ x V', Post x V' → U.le V' ∧ DrawIn ρ P ops U Q r ⟨(d, x) :: l, n⟩ V') :
    DrawIn ρ P ops U Q ((⟨some d, op, ty, pos, aft, none⟩, true) :: r) ⟨l, n⟩ V := by
  rw [DrawIn]
  exact ⟨.inl rfl, fun m a w s q next Q' hn => h m a w s q next Q' fun v m' w' x' V'' hp => hn v m' w' _ _ ⟨U, .inl rfl, (k _ _ hp).1, (k _ _ hp).2⟩⟩
theorem d_vb {U : View} {d : Tmp} {op : Op} {r : List (Oper × Bool)} {l : List (Nat × AVal)} {n : Nat} {Post : AVal → View → Prop}
    (h : OpS ρ P ⟨some d, op, ty, pos, aft, none⟩ (ASt.only ⟨l, n⟩ ops ⟨some d, op, ty, pos, aft, none⟩) V Post) (hf : fullB ops (ops.size - r.length - 1) = true) (k : ∀ x V', Post x V' → ∃ U' : View, U'.le V' ∧ DrawIn ρ P ops U' Q r ⟨(d, x) :: l, n⟩ V') :
    DrawIn ρ P ops U Q ((⟨some d, op, ty, pos, aft, none⟩, true) :: r) ⟨l, n⟩ V := by
  rw [DrawIn]
  exact ⟨.inl rfl, fun m a w s q next Q' hn => h m a w s q next Q' fun v m' w' x' V'' hp => hn v m' w' _ _ (let ⟨U', h1, h2⟩ := k _ _ hp; ⟨U', .inr hf, h1, h2⟩)⟩
theorem d_eg {U : View} {op : Op} {r : List (Oper × Bool)} {x : AVal} {V' : View} (hg : GdOK ops ⟨none, op, ty, pos, aft, gd⟩ (st.only ops ⟨none, op, ty, pos, aft, gd⟩))
    (h : OpS ρ P ⟨none, op, ty, pos, aft, gd⟩ (st.only ops ⟨none, op, ty, pos, aft, gd⟩) V (One x V')) (hU : U.le V') (k : DrawIn ρ P ops U Q r st V') :
    DrawIn ρ P ops U Q ((⟨none, op, ty, pos, aft, gd⟩, true) :: r) st V := by
  rw [DrawIn]
  exact ⟨hg, fun m a w s q next Q' hn => h m a w s q next Q' fun v m' w' x' V'' hp => by
      obtain ⟨rfl, rfl⟩ := hp; exact hn v m' w' _ _ ⟨U, .inl rfl, hU, k⟩⟩
theorem d_vpg {U : View} {d : Tmp} {op : Op} {r : List (Oper × Bool)} {l : List (Nat × AVal)} {n : Nat} {Post : AVal → View → Prop} (hg : GdOK ops ⟨some d, op, ty, pos, aft, gd⟩ (ASt.only ⟨l, n⟩ ops ⟨some d, op, ty, pos, aft, gd⟩))
    (h : OpS ρ P ⟨some d, op, ty, pos, aft, gd⟩ (ASt.only ⟨l, n⟩ ops ⟨some d, op, ty, pos, aft, gd⟩) V Post) (k : ∀ x V', Post x V' → U.le V' ∧ DrawIn ρ P ops U Q r ⟨(d, x) :: l, n⟩ V') :
    DrawIn ρ P ops U Q ((⟨some d, op, ty, pos, aft, gd⟩, true) :: r) ⟨l, n⟩ V := by
  rw [DrawIn]
  exact ⟨hg, fun m a w s q next Q' hn => h m a w s q next Q' fun v m' w' x' V'' hp => hn v m' w' _ _ ⟨U, .inl rfl, (k _ _ hp).1, (k _ _ hp).2⟩⟩
theorem d_nil {U : View} (h : Q .normal st V) : DrawIn ρ P ops U Q [] st V := by rw [DrawIn]; exact h

theorem s_storew {y z : Operand} {t : TypeId} {b off n : Nat} {g : Bool} {cs cs' : List AVal} {N : Option Nat} {x : AVal}
    (hs : shp P t = some (g, n)) (hy : Ev st y (.v (.pointer (some ⟨b, off, none⟩)))) (hz : Ev st z x) (hb : V b = some (.rown cs N)) (hx : x.good = true)
    (hn : x.cells.length = n) (hle : off + n ≤ cs.length) (hw : wrc cs off x.cells = cs') :
    OpS ρ P ⟨d, .store t y z, ty, pos, aft, gd⟩ st V (One (.v undef) (V.set b (.rown cs' N))) := hw ▸ s_store hs hy hz hb hx hn hle

/-! ### Equality of flat aggregates -/
inductive K where
  | i (k : IntKind)
  | b
  | s
def K.fits : K → Value → Bool
  | .i k, .int k' _ => k == k'
  | .b, .bool _ => true
  | .s, .string _ => true
  | _, _ => false
def fitsAll : List K → List Value → Prop
  | [], [] => True
  | k :: ks, v :: vs => k.fits v = true ∧ fitsAll ks vs
  | _, _ => False
theorem fitsAll.length : ∀ {ks : List K} {vs : List Value}, fitsAll ks vs → vs.length = ks.length
  | [], [], _ => rfl
  | _ :: _, _ :: _, h => by simp [fitsAll.length h.2]
  | [], _ :: _, h => h.elim
  | _ :: _, [], h => h.elim
theorem fitsAll.split : ∀ {ks ks' : List K} {vs : List Value}, fitsAll (ks ++ ks') vs → ∃ a b, vs = a ++ b ∧ fitsAll ks a ∧ fitsAll ks' b
  | [], ks', vs, h => ⟨[], vs, rfl, trivial, h⟩
  | k :: ks, ks', [], h => by simp [fitsAll] at h
  | k :: ks, ks', v :: vs, h => by
    obtain ⟨a, b, rfl, h1, h2⟩ := fitsAll.split h.2
    exact ⟨v :: a, b, rfl, ⟨h.1, h1⟩, h2⟩

def flF (f : TypeId → Option (List K)) : Nat → List Field → Option (List K)
  | _, [] => some []
  | off, x :: fs => if x.name ≠ "_" ∧ x.offset = off then (f x.type).bind fun a => (flF f (off + a.length) fs).map (a ++ ·) else none
def flN (a : List K) : Nat → List K
  | 0 => []
  | n + 1 => a ++ flN a n
def fl (P : Program) : Nat → TypeId → Option (List K)
  | 0, _ => none
  | d + 1, t =>
    match P.underlying t with
    | some .bool => if shp P t = some (false, 1) then some [.b] else none
    | some (.int k) => if shp P t = some (false, 1) then some [.i k] else none
    | some .string => if shp P t = some (false, 1) then some [.s] else none
    | some (.struct fs) => if P.stoodInHeld t then none else (flF (fl P d) 0 fs.toList).bind fun ks => if shp P t = some (true, ks.length) then some ks else none
    | some (.array n e) => (fl P d e).bind fun a => if shp P t = some (true, (flN a n).length) then some (flN a n) else none
    | _ => none
def mkv (g : Bool) (vs : List Value) : Value := if g then .agg ⟨vs⟩ else vs.headD undef

theorem rdv_mid {g : Bool} {a b c : List Value} (hg : g = false → b.length = 1) : rdv g b.length (a ++ (b ++ c)) a.length = some (mkv g b) := by
  cases g
  · have := hg rfl
    match b, this with
    | [x], _ => simp [rdv, mkv]
  · simp [rdv, mkv]

theorem fl_shp {P : Program} {d : Nat} {t : TypeId} {ks : List K} (h : fl P d t = some ks) : ∃ g, shp P t = some (g, ks.length) ∧ (g = false → ks.length = 1) := by
  cases d with
  | zero => simp [fl] at h
  | succ d =>
    simp only [fl] at h
    split at h <;> first
      | (cases h; done)
      | (split at h
         · rename_i hs; cases h; exact ⟨_, hs, fun _ => rfl⟩
         · cases h)
      | skip
    · split at h
      · cases h
      · simp only [Option.bind_eq_some_iff] at h
        obtain ⟨ks', _, h⟩ := h
        split at h
        · rename_i hs; cases h; exact ⟨_, hs, fun h => by cases h⟩
        · cases h
    · simp only [Option.bind_eq_some_iff] at h
      obtain ⟨a, _, h⟩ := h
      split at h
      · rename_i hs; cases h; exact ⟨_, hs, fun h => by cases h⟩
      · cases h

def EqOK (P : Program) (d : Nat) (t : TypeId) (ks : List K) : Prop := ∀ (w : World) (g : Bool) (xs ys : List Value), shp P t = some (g, ks.length) → fitsAll ks xs → fitsAll ks ys →
  ∃ r, (Op.equalIn d t (mkv g xs) (mkv g ys)).run P w = .ok r w ∧ (r = true ↔ xs = ys)

theorem eqF_ok {d : Nat} {f : TypeId → Option (List K)} (hf : ∀ t ks, f t = some ks → EqOK P d t ks ∧ ∃ g, shp P t = some (g, ks.length) ∧ (g = false → ks.length = 1)) :
    ∀ (fs : List Field) (off : Nat) (ks : List K), flF f off fs = some ks → ∀ (w : World) (px py xs ys : List Value), px.length = off → py.length = off → fitsAll ks xs → fitsAll ks ys →
      ∃ r, (Op.eqFields d ⟨px ++ xs⟩ ⟨py ++ ys⟩ fs).run P w = .ok r w ∧ (r = true ↔ xs = ys)
  | [], off, ks, h, w, px, py, xs, ys, h1, h2, hx, hy => by
    simp only [flF, Option.some.injEq] at h; subst h
    have e1 := hx.length; have e2 := hy.length
    simp at e1 e2; subst e1; subst e2
    exact ⟨true, by simp [Op.eqFields], by simp⟩
  | x :: fs, off, ks, h, w, px, py, xs, ys, h1, h2, hx, hy => by
    simp only [flF] at h
    split at h
    · rename_i hn
      simp only [Option.bind_eq_some_iff, Option.map_eq_some_iff] at h
      obtain ⟨a, ha, ks', hk, rfl⟩ := h
      obtain ⟨ok, g, hg, hg1⟩ := hf _ _ ha
      obtain ⟨xa, xb, rfl, hxa, hxb⟩ := hx.split
      obtain ⟨ya, yb, rfl, hya, hyb⟩ := hy.split
      have la := hxa.length; have lb := hya.length
      obtain ⟨r, hr, hiff⟩ := ok w g xa ya hg hxa hya
      have p1 : (part x.type ⟨px ++ (xa ++ xb)⟩ x.offset).run P w = .ok (mkv g xa) w := run_part hg (by
        rw [hn.2, ← la, ← h1]; exact rdv_mid (fun hh => by rw [la]; exact hg1 hh)) w
      have p2 : (part x.type ⟨py ++ (ya ++ yb)⟩ x.offset).run P w = .ok (mkv g ya) w := run_part hg (by
        rw [hn.2, ← lb, ← h2]; exact rdv_mid (fun hh => by rw [lb]; exact hg1 hh)) w
      have hlen : xa.length = ya.length := by rw [la, lb]
      have inj : xa ++ xb = ya ++ yb ↔ xa = ya ∧ xb = yb := ⟨fun e => List.append_inj e hlen, fun e => by rw [e.1, e.2]⟩
      cases r with
      | false =>
        refine ⟨false, ?_, ?_⟩
        · simp [Op.eqFields, hn.1, Sem.run_bind, p1, p2, hr, Result.andThen]
        · have : ¬ xa = ya := fun e => by simpa using hiff.2 e
          simp [inj, this]
      | true =>
        obtain ⟨r', hr', hiff'⟩ := eqF_ok hf fs (off + a.length) ks' hk w (px ++ xa) (py ++ ya) xb yb (by simp [h1, la]) (by simp [h2, lb]) hxb hyb
        rw [List.append_assoc, List.append_assoc] at hr'
        refine ⟨r', ?_, ?_⟩
        · simp [Op.eqFields, hn.1, Sem.run_bind, p1, p2, hr, Result.andThen, hr']
        · have : xa = ya := hiff.1 rfl
          simp [inj, this, hiff']
    · cases h

theorem eqN_ok {d : Nat} {e : TypeId} {a : List K} {g : Bool} (hg : shp P e = some (g, a.length)) (hg1 : g = false → a.length = 1) (ok : EqOK P d e a) :
    ∀ (m j : Nat) (w : World) (px py xs ys : List Value), px.length = j * a.length → py.length = j * a.length → fitsAll (flN a m) xs → fitsAll (flN a m) ys →
      ∃ r, (Op.eqItems d e a.length ⟨px ++ xs⟩ ⟨py ++ ys⟩ (List.range' j m)).run P w = .ok r w ∧ (r = true ↔ xs = ys)
  | 0, j, w, px, py, xs, ys, h1, h2, hx, hy => by
    have e1 := hx.length; have e2 := hy.length
    simp [flN] at e1 e2; subst e1; subst e2
    exact ⟨true, by simp [Op.eqItems], by simp⟩
  | m + 1, j, w, px, py, xs, ys, h1, h2, hx, hy => by
    simp only [flN] at hx hy
    obtain ⟨xa, xb, rfl, hxa, hxb⟩ := hx.split
    obtain ⟨ya, yb, rfl, hya, hyb⟩ := hy.split
    have la := hxa.length; have lb := hya.length
    obtain ⟨r, hr, hiff⟩ := ok w g xa ya hg hxa hya
    have p1 : (part e ⟨px ++ (xa ++ xb)⟩ (j * a.length)).run P w = .ok (mkv g xa) w := run_part hg (by
      rw [← h1, ← la]; exact rdv_mid (fun hh => by rw [la]; exact hg1 hh)) w
    have p2 : (part e ⟨py ++ (ya ++ yb)⟩ (j * a.length)).run P w = .ok (mkv g ya) w := run_part hg (by
      rw [← h2, ← lb]; exact rdv_mid (fun hh => by rw [lb]; exact hg1 hh)) w
    have hlen : xa.length = ya.length := by rw [la, lb]
    have inj : xa ++ xb = ya ++ yb ↔ xa = ya ∧ xb = yb := ⟨fun e => List.append_inj e hlen, fun e => by rw [e.1, e.2]⟩
    cases r with
    | false =>
      refine ⟨false, ?_, ?_⟩
      · simp [Op.eqItems, List.range'_succ, Sem.run_bind, p1, p2, hr, Result.andThen]
      · have : ¬ xa = ya := fun e => by simpa using hiff.2 e
        simp [inj, this]
    | true =>
      obtain ⟨r', hr', hiff'⟩ := eqN_ok hg hg1 ok m (j + 1) w (px ++ xa) (py ++ ya) xb yb (by simp [h1, la, Nat.add_mul]) (by simp [h2, lb, Nat.add_mul]) hxb hyb
      rw [List.append_assoc, List.append_assoc] at hr'
      refine ⟨r', ?_, ?_⟩
      · simp [Op.eqItems, List.range'_succ, Sem.run_bind, p1, p2, hr, Result.andThen, hr']
      · have : xa = ya := hiff.1 rfl
        simp [inj, this, hiff']

theorem eq_flat : ∀ (d n : Nat) (t : TypeId) (ks : List K), fl P d t = some ks → EqOK P (d + n) t ks
  | 0, n, t, ks, h => by simp [fl] at h
  | d + 1, n, t, ks, h => by
    intro w g xs ys hg hx hy
    rw [show d + 1 + n = (d + n) + 1 by omega]
    simp only [fl] at h
    split at h
    · rename_i hu
      split at h
      · rename_i hs; cases h
        rw [hs] at hg; cases hg
        match xs, ys, hx, hy with
        | [.bool a], [.bool b], _, _ => exact ⟨a == b, by simp [mkv, run_equalIn_bool' w (d + n) t a b hu], by simp⟩
        | [.int ..], _, hx, _ => simp [fitsAll, K.fits] at hx
      · cases h
    · rename_i k hu
      split at h
      · rename_i hs; cases h
        rw [hs] at hg; cases hg
        match xs, ys, hx, hy with
        | [.int k1 a], [.int k2 b], hx, hy =>
          simp [fitsAll, K.fits] at hx hy; subst hx; subst hy
          exact ⟨a == b, by simp [mkv, run_equalIn_int w (d + n) t _ _ a b hu], by simp⟩
      · cases h
    · rename_i hu
      split at h
      · rename_i hs; cases h
        rw [hs] at hg; cases hg
        match xs, ys, hx, hy with
        | [.string a], [.string b], _, _ =>
          refine ⟨a.toList == b.toList, by simp [mkv, run_equalIn_string w (d + n) t a b hu], ?_⟩
          rw [← beq_toListBytes]
          obtain ⟨x⟩ := a
          obtain ⟨y⟩ := b
          show (x == y) = true ↔ _
          simp
      · cases h
    · rename_i fs hu
      split at h
      · cases h
      · rename_i hst
        simp only [Option.bind_eq_some_iff] at h
        obtain ⟨ks', hk, h⟩ := h
        split at h
        · rename_i hs; cases h
          rw [hs] at hg; cases hg
          have hfs : P.fieldsOf t = fs := by simp [Program.fieldsOf, hu]
          obtain ⟨r, hr, hiff⟩ := eqF_ok (d := d + n) (fun t' k' h' => ⟨eq_flat d n t' k' h', fl_shp h'⟩) fs.toList 0 ks hk w [] [] xs ys rfl rfl hx hy
          refine ⟨r, ?_, hiff⟩
          simp only [mkv, if_true]
          rw [run_equalIn_struct w (d + n) t _ _ (by rw [hfs]; exact hu) (by simpa using hst), hfs]
          simpa using hr
        · cases h
    · rename_i m e hu
      simp only [Option.bind_eq_some_iff] at h
      obtain ⟨a, ha, h⟩ := h
      split at h
      · rename_i hs; cases h
        rw [hs] at hg; cases hg
        obtain ⟨g', hg', hg1⟩ := fl_shp ha
        obtain ⟨_, i, _, hi, hsz, _⟩ := shp_info hg'
        obtain ⟨r, hr, hiff⟩ := eqN_ok hg' hg1 (eq_flat d n e a ha) m 0 w [] [] xs ys (by simp) (by simp) hx hy
        refine ⟨r, ?_, hiff⟩
        simp only [mkv, if_true]
        rw [run_equalIn_array w (d + n) _ _ hu hi]
        have : P.cellsOf e = a.length := by simp [Program.cellsOf, hi, hsz]
        rw [this, List.range_eq_range']
        simpa using hr
      · cases h
    · cases h

theorem s_eqa {op : BinOp} {D : Nat} {ks : List K} {t t' : TypeId} {y z : Operand} {xs ys : List Value} {r : Bool} (hf : fl P D t = some ks) (hD : Nat.ble D 10000 = true) (hgu : P.eqGuardType P.depth t = false) (hsh : shp P t = some (true, ks.length))
    (hy : Ev st y (.agg (xs.map .v))) (hz : Ev st z (.agg (ys.map .v))) (hx : fitsAll ks xs) (hys : fitsAll ks ys)
    (hr : op = .eql ∧ (r = true ↔ xs = ys) ∨ op = .neq ∧ (r = false ↔ xs = ys)) :
    OpS ρ P ⟨d, .binOp op t y z t', ty, pos, aft, gd⟩ st V (One (.v (.bool r)) V) :=
  opS_pure (by intro c h; cases h) fun m a w s q => by
    have ex : ∀ {us : List Value} {v : Value}, Tr m (.agg (us.map .v)) v → v = .agg ⟨us⟩ := by
      intro us v h
      simp only [Tr] at h
      obtain ⟨vs, rfl, hl⟩ := h
      have : ∀ (us vs : List Value), TrL m (us.map .v) vs → vs = us := by
        intro us
        induction us with
        | nil => intro vs h; simpa [TrL] using h
        | cons u us ih =>
          intro vs h
          simp only [List.map_cons, TrL] at h
          obtain ⟨v, r, rfl, hv, hr⟩ := h
          simp only [Tr] at hv
          rw [hv, ih r hr]
      rw [this us vs hl]
    have hv := ex (hy m a q)
    have hi := ex (hz m a q)
    obtain ⟨r', hr', hiff⟩ := eq_flat D (10000 - D) t ks hf w true xs ys hsh hx hys
    have hD' : D + (10000 - D) = 10000 := by have := Nat.le_of_ble_eq_true hD; omega
    rw [hD'] at hr'
    simp only [mkv, if_true] at hr'
    refine ⟨.bool r, w, ?_, rfl, by simp [Tr]⟩
    rcases hr with ⟨rfl, hr⟩ | ⟨rfl, hr⟩
    · have : r = r' := by rw [Bool.eq_iff_iff, hr, hiff]
      subst this
      simp [execOp, hv, hi, run_eqGuard_agg w _ t y z _ _ hgu, run_eql_struct, hr', Sem.run_bind, Result.andThen]
    · have : r = !r' := by cases r <;> cases r' <;> simp_all
      subst this
      simp [execOp, hv, hi, run_eqGuard_agg w _ t y z _ _ hgu, run_neq_struct, hr', Sem.run_bind, Result.andThen]
#print axioms s_eqa
end Go.AV
