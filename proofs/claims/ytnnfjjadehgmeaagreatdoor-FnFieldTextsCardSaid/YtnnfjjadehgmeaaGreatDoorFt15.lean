/- Plain: the numbers of the reference's source (a linear congruential sequence modulo 2^64): in every row of draws at every fourth place, and in every row at one of each two neighbours, one is met soon that 3 does not divide. | Plain: the loop of DrawParseField ends, and its text stays short: what falls with each round (ms), what holds of the text's length (LenI). | Walks: the reference's source with its hash told (h) and how many bytes are left (r). | Walk of the reference: l01Damage. -/
import Derived.Test.YtnnfjjadehgmeaaGreatDoorRows
import Derived.Test.YtnnfjjadehgmeaaGreatDoorFt11
import Derived.Test.YtnnfjjadehgmeaaGreatDoorFt6
set_option maxRecDepth 100000
set_option linter.unusedVariables false
set_option linter.unusedSimpArgs false
namespace Go.Proofs.YtnnfjjadehgmeaaGreatDoor

@[irreducible] def nx (h : Nat) : Nat := (h * 6364136223846793005 + 1442695040888963407) % 18446744073709551616
theorem nx_eq (h : Nat) : nx h = (h * 6364136223846793005 + 1442695040888963407) % 18446744073709551616 := by unfold nx; exact Eq.refl _
@[irreducible] def yb (h : Nat) : Nat := h / 8589934592 % 16777216
def itf (f : Nat → Nat) : Nat → Nat → Nat
  | 0, h => h
  | n + 1, h => itf f n (f h)
theorem itf_succ (f : Nat → Nat) (n h : Nat) : itf f (n + 1) h = itf f n (f h) := rfl
theorem itf_zero (f : Nat → Nat) (h : Nat) : itf f 0 h = h := rfl
theorem itf_one (f : Nat → Nat) (h : Nat) : itf f 1 h = f h := rfl
theorem itf_add (f : Nat → Nat) (m : Nat) : ∀ (n h : Nat), itf f (m + n) h = itf f n (itf f m h) := by
  induction m with
  | zero => intro n h; rw [Nat.zero_add]; rfl
  | succ m ih => intro n h; rw [Nat.succ_add]; exact ih n (f h)
theorem itf_two (f : Nat → Nat) : ∀ (n h : Nat), itf (fun x => f (f x)) n h = itf f (2 * n) h
  | 0, h => rfl
  | n + 1, h => by rw [itf_succ, itf_two f n, show 2 * (n + 1) = 2 * n + 1 + 1 from by omega, itf_succ, itf_succ]
@[irreducible] def itn (n h : Nat) : Nat := itf nx n h
theorem itn_one (h : Nat) : itn 1 h = nx h := by unfold itn; exact itf_one nx h
theorem itn_zero (h : Nat) : itn 0 h = h := by unfold itn; exact itf_zero nx h
theorem itn_add (m n h : Nat) : itn (m + n) h = itn n (itn m h) := by unfold itn; exact itf_add nx m n h
theorem aff_two (M a c h : Nat) : ((h * a + c) % M * a + c) % M = (h * (a * a % M) + (c * a + c) % M) % M := by
  have e1 : ((h * a + c) % M * a + c) % M = ((h * a + c) * a + c) % M := by
    rw [Nat.add_mod, Nat.mod_mul_mod, ← Nat.add_mod]
  have e2 : (h * (a * a % M) + (c * a + c) % M) % M = (h * (a * a) + (c * a + c)) % M := by
    rw [Nat.add_mod, Nat.mul_mod, Nat.mod_mod, Nat.mod_mod, ← Nat.mul_mod, ← Nat.add_mod]
  rw [e1, e2, Nat.add_mul, Nat.mul_assoc, Nat.add_assoc]
def Jmp (N a c : Nat) : Prop := ∀ h, itn N h = (h * a + c) % 18446744073709551616
theorem Jmp.two {N a c : Nat} (j : Jmp N a c) (N' a' c' : Nat) (hn : N + N = N') (ha : a * a % 18446744073709551616 = a') (hc : (c * a + c) % 18446744073709551616 = c') : Jmp N' a' c' := fun h => by
  rw [← hn, ← ha, ← hc, itn_add, j h, j, aff_two]
--JUMPS
theorem j0 : Jmp 1 6364136223846793005 1442695040888963407 := fun h => (itn_one h).trans (nx_eq h)
theorem j1 : Jmp 2 7520897724310334953 1876011003808476466 := j0.two _ _ _ rfl rfl rfl
theorem j2 : Jmp 4 18108194425815612945 7401132627792533940 := j1.two _ _ _ rfl rfl rfl
theorem j3 : Jmp 8 13086856194709077281 6566661184467396264 := j2.two _ _ _ rfl rfl rfl
theorem j4 : Jmp 16 10186629832379121217 3646985772805368400 := j3.two _ _ _ rfl rfl rfl
theorem j5 : Jmp 32 10828933358287359105 982119659650238624 := j4.two _ _ _ rfl rfl rfl
theorem j6 : Jmp 64 4910590176156014849 10607473198416945472 := j5.two _ _ _ rfl rfl rfl
theorem j7 : Jmp 128 9908147928152388097 6914523672464851584 := j6.two _ _ _ rfl rfl rfl
theorem j8 : Jmp 256 146241703003251713 4689171378020353280 := j7.two _ _ _ rfl rfl rfl
theorem j9 : Jmp 512 7321387688379467777 8103286608563669504 := j8.two _ _ _ rfl rfl rfl
theorem j10 : Jmp 1024 12255457568021647361 7710372194127975424 := j9.two _ _ _ rfl rfl rfl
theorem j11 : Jmp 2048 9867978473775767553 16043993925053589504 := j10.two _ _ _ rfl rfl rfl
theorem j12 : Jmp 4096 5088048636545613825 1993901509916512256 := j11.two _ _ _ rfl rfl rfl
theorem j13 : Jmp 8192 2150478223927705601 13175896319671181312 := j12.two _ _ _ rfl rfl rfl
theorem j14 : Jmp 16384 9196835419631190017 1993366741509554176 := j13.two _ _ _ rfl rfl rfl
theorem j15 : Jmp 32768 5957860013156466689 7241871532530761728 := j14.two _ _ _ rfl rfl rfl
theorem j16 : Jmp 65536 10389140232424652801 9829074100562493440 := j15.two _ _ _ rfl rfl rfl
theorem j17 : Jmp 131072 13023643825678581761 7211655632440131584 := j16.two _ _ _ rfl rfl rfl
theorem j18 : Jmp 262144 288945459443007489 14014807304630960128 := j17.two _ _ _ rfl rfl rfl
theorem j19 : Jmp 524288 13413133364217511937 15586959662575517696 := j18.two _ _ _ rfl rfl rfl
theorem j20 : Jmp 1048576 8991946233350193153 5614651135149211648 := j19.two _ _ _ rfl rfl rfl
theorem j21 : Jmp 2097152 1986842707489718273 10449321915693662208 := j20.two _ _ _ rfl rfl rfl
theorem j22 : Jmp 4194304 13772462672974970881 17778722412968280064 := j21.two _ _ _ rfl rfl rfl
theorem j23 : Jmp 8388608 11399802156803424257 4631015078550831104 := j22.two _ _ _ rfl rfl rfl
theorem j24 : Jmp 16777216 13559343778149433345 14683519683525607424 := j23.two _ _ _ rfl rfl rfl
theorem j25 : Jmp 33554432 8604389488178757633 14159509325327892480 := j24.two _ _ _ rfl rfl rfl
theorem j26 : Jmp 67108864 16938562998715285505 4382386631181598720 := j25.two _ _ _ rfl rfl rfl
theorem j27 : Jmp 134217728 14349518013152100353 5251965553014210560 := j26.two _ _ _ rfl rfl rfl
theorem j28 : Jmp 268435456 5928836310318972929 14899444342342025216 := j27.two _ _ _ rfl rfl rfl
theorem j29 : Jmp 536870912 13010594125244792833 10487453482519363584 := j28.two _ _ _ rfl rfl rfl
theorem j30 : Jmp 1073741824 12186130195207421953 17516142451218186240 := j29.two _ _ _ rfl rfl rfl
theorem j31 : Jmp 2147483648 5925516316705292289 2750482773444657152 := j30.two _ _ _ rfl rfl rfl
theorem j32 : Jmp 4294967296 11851032633410584577 5500965546889314304 := j31.two _ _ _ rfl rfl rfl
theorem j33 : Jmp 8589934592 5255321193111617537 11001931093778628608 := j32.two _ _ _ rfl rfl rfl
theorem j34 : Jmp 17179869184 10510642386223235073 3557118113847705600 := j33.two _ _ _ rfl rfl rfl
theorem j35 : Jmp 34359738368 2574540698736918529 7114236227695411200 := j34.two _ _ _ rfl rfl rfl
theorem j36 : Jmp 68719476736 5149081397473837057 14228472455390822400 := j35.two _ _ _ rfl rfl rfl
theorem j37 : Jmp 137438953472 10298162794947674113 10010200837072093184 := j36.two _ _ _ rfl rfl rfl
theorem j38 : Jmp 274877906944 2149581516185796609 1573657600434634752 := j37.two _ _ _ rfl rfl rfl
theorem j39 : Jmp 549755813888 4299163032371593217 3147315200869269504 := j38.two _ _ _ rfl rfl rfl
theorem j40 : Jmp 1099511627776 8598326064743186433 6294630401738539008 := j39.two _ _ _ rfl rfl rfl
theorem j41 : Jmp 2199023255552 17196652129486372865 12589260803477078016 := j40.two _ _ _ rfl rfl rfl
theorem j42 : Jmp 4398046511104 15946560185263194113 6731777533244604416 := j41.two _ _ _ rfl rfl rfl
theorem j43 : Jmp 8796093022208 13446376296816836609 13463555066489208832 := j42.two _ _ _ rfl rfl rfl
theorem j44 : Jmp 17592186044416 8446008519924121601 8480366059268866048 := j43.two _ _ _ rfl rfl rfl
theorem j45 : Jmp 35184372088832 16892017039848243201 16960732118537732096 := j44.two _ _ _ rfl rfl rfl
theorem j46 : Jmp 70368744177664 15337290005986934785 15474720163365912576 := j45.two _ _ _ rfl rfl rfl
theorem j47 : Jmp 140737488355328 12227835938264317953 12502696253022273536 := j46.two _ _ _ rfl rfl rfl
theorem j48 : Jmp 281474976710656 6008927802819084289 6558648432334995456 := j47.two _ _ _ rfl rfl rfl
theorem j49 : Jmp 562949953421312 12017855605638168577 13117296864669990912 := j48.two _ _ _ rfl rfl rfl
theorem j50 : Jmp 1125899906842624 5588967137566785537 7787849655630430208 := j49.two _ _ _ rfl rfl rfl
theorem j51 : Jmp 2251799813685248 11177934275133571073 15575699311260860416 := j50.two _ _ _ rfl rfl rfl
theorem j52 : Jmp 4503599627370496 3909124476557590529 12704654548812169216 := j51.two _ _ _ rfl rfl rfl
theorem j53 : Jmp 9007199254740992 7818248953115181057 6962565023914786816 := j52.two _ _ _ rfl rfl rfl
theorem j54 : Jmp 18014398509481984 15636497906230362113 13925130047829573632 := j53.two _ _ _ rfl rfl rfl
theorem j55 : Jmp 36028797018963968 12826251738751172609 9403516021949595648 := j54.two _ _ _ rfl rfl rfl
theorem j56 : Jmp 72057594037927936 7205759403792793601 360287970189639680 := j55.two _ _ _ rfl rfl rfl
--END
theorem itn20 (h : Nat) : itn 1048576 h = (h * 8991946233350193153 + 5614651135149211648) % 18446744073709551616 := j20 h
theorem itn33 (h : Nat) : itn 8589934592 h = (h * 5255321193111617537 + 11001931093778628608) % 18446744073709551616 := j33 h
theorem itn56 (h : Nat) : itn 72057594037927936 h = (h * 7205759403792793601 + 360287970189639680) % 18446744073709551616 := j56 h
/-- the number's change over 2^33 draws -/
@[irreducible] def wv (h : Nat) : Nat := (611799908 * (h % 4194304) + 1280793349) % 16777216
theorem yb_add (x k : Nat) : yb ((x + 8589934592 * k) % 18446744073709551616) = (yb x + k) % 16777216 := by
  unfold yb
  have e : (x + 8589934592 * k) / 8589934592 = x / 8589934592 + k := Nat.add_mul_div_left _ _ (by omega)
  have e2 : (x + 8589934592 * k) % 18446744073709551616 / 8589934592 = (x + 8589934592 * k) / 8589934592 % 2147483648 := by
    generalize x + 8589934592 * k = z
    omega
  rw [e2, e]
  generalize x / 8589934592 = q
  omega
theorem yb_lt (h : Nat) : yb h < 16777216 := by unfold yb; omega
theorem wv_lt (h : Nat) : wv h < 16777216 := by unfold wv; omega
theorem yb33 (h : Nat) : yb (itn 8589934592 h) = (yb h + wv h) % 16777216 := by
  rw [itn33]
  have e : h * 5255321193111617537 + 11001931093778628608 = h + 8589934592 * (611799908 * h + 1280793349) := by omega
  rw [e, yb_add]
  unfold wv
  have e2 : 611799908 * h % 16777216 = 611799908 * (h % 4194304) % 16777216 := by omega
  generalize yb h = y
  generalize 611799908 * h = p at e2
  generalize 611799908 * (h % 4194304) = p' at e2
  omega
theorem wv20 (h : Nat) : wv (itn 1048576 h) = (wv h + 4194304) % 16777216 := by
  rw [itn20]
  unfold wv
  have e : (h * 8991946233350193153 + 5614651135149211648) % 18446744073709551616 % 4194304 = (h % 4194304 + 1048576) % 4194304 := by omega
  rw [e]
  generalize h % 4194304 = b
  omega
theorem yb56 (h : Nat) : yb (itn 72057594037927936 h) = (yb h + 8388608) % 16777216 := by
  rw [itn56]
  have e : h * 7205759403792793601 + 360287970189639680 = h + 8589934592 * (838860800 * h + 41943040) := by omega
  rw [e, yb_add]
  generalize yb h = y
  omega

theorem itn_sum (m n k h : Nat) (hk : m + n = k) : itn k h = itn n (itn m h) := by rw [← hk, itn_add]
theorem wrapN (N y x : Nat) (hy : y < N) (hx : x < N) : ((y + x) % N = y + x ∧ y + x < N) ∨ (y + x) % N + N = y + x := by
  by_cases h : y + x < N
  · exact .inl ⟨Nat.mod_eq_of_lt h, h⟩
  · refine .inr ?_
    rw [Nat.mod_eq_sub_mod (by omega), Nat.mod_eq_of_lt (by omega)]
    omega
theorem mod3_a (y x : Nat) (b0 : y < 16777216) (b1 : x < 16777216) (y0 : y % 3 = 0) (y1 : (y + x) % 16777216 % 3 = 0) : x % 3 ≠ 2 := by
  rcases wrapN 16777216 y x b0 b1 with ⟨e, -⟩ | e
  · rw [e] at y1; omega
  · generalize (y + x) % 16777216 = z at *
    omega
theorem mod3_b (x : Nat) (b : x < 16777216) (w0 : x % 3 ≠ 2) (w1 : (x + 4194304) % 16777216 % 3 ≠ 2) (w2 : ((x + 4194304) % 16777216 + 4194304) % 16777216 % 3 ≠ 2) (w3 : (((x + 4194304) % 16777216 + 4194304) % 16777216 + 4194304) % 16777216 % 3 ≠ 2) : False := by
  have c1 := wrapN 16777216 x 4194304 b (by omega)
  have l1 : (x + 4194304) % 16777216 < 16777216 := Nat.mod_lt _ (by omega)
  generalize (x + 4194304) % 16777216 = a at *
  have c2 := wrapN 16777216 a 4194304 l1 (by omega)
  have l2 : (a + 4194304) % 16777216 < 16777216 := Nat.mod_lt _ (by omega)
  generalize (a + 4194304) % 16777216 = d at *
  have c3 := wrapN 16777216 d 4194304 l2 (by omega)
  have l3 : (d + 4194304) % 16777216 < 16777216 := Nat.mod_lt _ (by omega)
  generalize (d + 4194304) % 16777216 = f at *
  rcases c1 with ⟨c1, c1'⟩ | c1 <;> rcases c2 with ⟨c2, c2'⟩ | c2 <;> rcases c3 with ⟨c3, c3'⟩ | c3 <;> omega
theorem mod3_c (y : Nat) (b0 : y < 16777216) (y0 : y % 3 = 0) (y1 : (y + 8388608) % 16777216 % 3 = 0) : False := by
  rcases wrapN 16777216 y 8388608 b0 (by omega) with ⟨e, -⟩ | e
  · rw [e] at y1; omega
  · generalize (y + 8388608) % 16777216 = z at *
    omega
/-- at every fourth place: within 2^33 + 3 2^20 draws there is a number that 3 does not divide -/
theorem soon (h : Nat) : ∃ n, n % 4 = 0 ∧ n ≤ 8593080320 ∧ yb (itn n h) % 3 ≠ 0 := by
  by_cases hex : ∃ n, n % 4 = 0 ∧ n ≤ 8593080320 ∧ yb (itn n h) % 3 ≠ 0
  · exact hex
  exfalso
  have hz : ∀ n, n % 4 = 0 → n ≤ 8593080320 → yb (itn n h) % 3 = 0 := fun n h1 h2 => by
    by_cases e : yb (itn n h) % 3 = 0
    · exact e
    · exact absurd ⟨n, h1, h2, e⟩ hex
  clear hex
  have hw : ∀ n, n % 4 = 0 → n ≤ 3145728 → wv (itn n h) % 3 ≠ 2 := fun n h1 h2 => by
    have y0 := hz n h1 (by omega)
    have y1 := hz (n + 8589934592) (by omega) (by omega)
    rw [itn_add, yb33] at y1
    exact mod3_a _ _ (yb_lt _) (wv_lt _) y0 y1
  have w0 := hw 0 (by omega) (by omega)
  have w1 := hw 1048576 (by omega) (by omega)
  have w2 := hw 2097152 (by omega) (by omega)
  have w3 := hw 3145728 (by omega) (by omega)
  rw [itn_sum 2097152 1048576 3145728 h (by omega), itn_sum 1048576 1048576 2097152 h (by omega), wv20, wv20, wv20] at w3
  rw [itn_sum 1048576 1048576 2097152 h (by omega), wv20, wv20] at w2
  rw [wv20] at w1
  rw [itn_zero] at w0
  exact mod3_b _ (wv_lt _) w0 w1 w2 w3

/-- a property that meets one of each two neighbours, and never both n and n + 2 K, fails within 4 K + 2 -/
theorem pair_of (Z : Nat → Prop) (K : Nat) (h1 : ∀ p, Z p → ¬ Z (p + 2 * K)) : ∃ p, p ≤ 4 * K + 1 ∧ ¬ Z p ∧ ¬ Z (p + 1) := by
  by_cases hex : ∃ p, p ≤ 4 * K + 1 ∧ ¬ Z p ∧ ¬ Z (p + 1)
  · exact hex
  exfalso
  have hb : ∀ p, p ≤ 4 * K + 1 → ¬ Z p → Z (p + 1) := fun p hp hz => by
    by_cases e : Z (p + 1)
    · exact e
    · exact absurd ⟨p, hp, hz, e⟩ hex
  have ha : ∀ p, p ≤ 2 * K + 1 → Z p → ¬ Z (p + 1) := fun p hp hz hz1 => by
    have e := hb (p + 2 * K) (by omega) (h1 p hz)
    have e2 := h1 (p + 1) hz1
    rw [show p + 1 + 2 * K = p + 2 * K + 1 from by omega] at e2
    exact e2 e
  have hs : ∀ (b k : Nat), b ≤ 1 → k ≤ K → Z b → Z (b + 2 * k) := fun b k hb1 hk hz => by
    induction k with
    | zero => exact hz
    | succ k ih =>
      have e := ha (b + 2 * k) (by omega) (ih (by omega))
      exact hb (b + 2 * k + 1) (by omega) e
  by_cases z0 : Z 0
  · have e := hs 0 K (by omega) (Nat.le_refl _) z0
    exact h1 0 z0 e
  · have z1 := hb 0 (by omega) z0
    have e := hs 1 K (by omega) (Nat.le_refl _) z1
    exact h1 1 z1 e
/-- the number tested at h -/
@[irreducible] def yt (h : Nat) : Nat := yb (nx h)
/-- two draws -/
@[irreducible] def u2 (h : Nat) : Nat := nx (nx h)
@[irreducible] def un (n h : Nat) : Nat := itf u2 n h
theorem un_zero (h : Nat) : un 0 h = h := by unfold un; exact itf_zero u2 h
theorem un_succ (n h : Nat) : un (n + 1) h = un n (u2 h) := by unfold un; exact itf_succ u2 n h
theorem u2_eq : u2 = fun x => nx (nx x) := by funext x; unfold u2; rfl
theorem un_itn (n h : Nat) : un n h = itn (2 * n) h := by
  unfold un itn
  rw [u2_eq]
  exact itf_two nx n h
theorem yt_un (n h : Nat) : yt (un n h) = yb (itn (2 * n) (nx h)) := by
  rw [un_itn, yt, ← itn_one (itn (2 * n) h), ← itn_add, Nat.add_comm, itn_add, itn_one]
theorem far (p h : Nat) (hz : yt (un p h) % 3 = 0) (hz1 : yt (un (p + 36028797018963968) h) % 3 = 0) : False := by
  rw [yt_un] at hz hz1
  rw [itn_sum (2 * p) 72057594037927936 (2 * (p + 36028797018963968)) _ (by omega), yb56] at hz1
  exact mod3_c _ (yb_lt _) hz hz1
/-- within 2^56 places there are two neighbours that 3 does not divide -/
theorem good_pair (h : Nat) : ∃ p, p ≤ 72057594037927937 ∧ yt (un p h) % 3 ≠ 0 ∧ yt (un (p + 1) h) % 3 ≠ 0 := by
  obtain ⟨K, hK⟩ : ∃ K, 2 * K = 36028797018963968 := ⟨18014398509481984, by omega⟩
  obtain ⟨p, hp, h1, h2⟩ := pair_of (fun p => yt (un p h) % 3 = 0) K (fun p hz hz1 => by
    rw [hK] at hz1
    exact far p h hz hz1)
  exact ⟨p, by omega, h1, h2⟩
end Go.Proofs.YtnnfjjadehgmeaaGreatDoor

set_option maxRecDepth 100000
set_option linter.unusedVariables false
set_option linter.unusedSimpArgs false
namespace Go.Proofs.YtnnfjjadehgmeaaGreatDoor

theorem least {P : Nat → Prop} : ∀ n, P n → ∃ m, P m ∧ m ≤ n ∧ ∀ k, P k → m ≤ k := by
  intro n
  induction n using Nat.strongRecOn with
  | ind n ih =>
    intro h
    by_cases e : ∃ k, k < n ∧ P k
    · obtain ⟨k, hk, hp⟩ := e
      obtain ⟨m, h1, h2, h3⟩ := ih k hk hp
      exact ⟨m, h1, by omega, h3⟩
    · refine ⟨n, h, Nat.le_refl _, fun k hk => ?_⟩
      rcases Nat.lt_or_ge k n with h' | h'
      · exact absurd ⟨k, h', hk⟩ e
      · exact h'
def Gd (h p : Nat) : Prop := yt (un p h) % 3 ≠ 0 ∧ yt (un (p + 1) h) % 3 ≠ 0
theorem gd_ex (h : Nat) : ∃ m, Gd h m ∧ m ≤ 72057594037927937 ∧ ∀ k, Gd h k → m ≤ k := by
  obtain ⟨p, hp, h1⟩ := good_pair h
  obtain ⟨m, a, b, c⟩ := least (P := Gd h) p h1
  exact ⟨m, a, Nat.le_trans b hp, c⟩
noncomputable def dz (h : Nat) : Nat := Classical.choose (gd_ex h)
theorem dz_gd (h : Nat) : Gd h (dz h) := (Classical.choose_spec (gd_ex h)).1
theorem dz_le (h : Nat) : dz h ≤ 72057594037927937 := (Classical.choose_spec (gd_ex h)).2.1
theorem dz_min {h k : Nat} (hk : Gd h k) : dz h ≤ k := (Classical.choose_spec (gd_ex h)).2.2 k hk
noncomputable def mz (h : Nat) : Nat := if yt h % 3 = 0 then dz h + 1 else 0
theorem mz_le (h : Nat) : mz h ≤ 72057594037927938 := by
  unfold mz
  have := dz_le h
  split <;> omega
theorem mz_dz (h : Nat) : mz h ≤ dz h + 1 := by unfold mz; split <;> omega
theorem gd_succ {h p : Nat} (g : Gd h (p + 1)) : Gd (u2 h) p := by
  obtain ⟨a, b⟩ := g
  rw [un_succ] at a b
  exact ⟨a, b⟩
theorem mz_u {h : Nat} (hz : yt h % 3 = 0) : mz (u2 h) < mz h := by
  have e : mz h = dz h + 1 := by unfold mz; rw [if_pos hz]
  have g := dz_gd h
  rw [e]
  generalize dz h = d at g
  cases d with
  | zero => obtain ⟨a, -⟩ := g; rw [un_zero] at a; exact absurd hz a
  | succ d =>
    have h1 := dz_min (gd_succ g)
    have h2 := mz_dz (u2 h)
    omega
theorem mz_uu {h : Nat} (hz : yt h % 3 = 0) : mz (u2 (u2 h)) < mz h := by
  have e : mz h = dz h + 1 := by unfold mz; rw [if_pos hz]
  have g := dz_gd h
  rw [e]
  generalize dz h = d at g
  cases d with
  | zero => obtain ⟨a, -⟩ := g; rw [un_zero] at a; exact absurd hz a
  | succ d =>
    have g1 := gd_succ g
    cases d with
    | zero =>
      obtain ⟨-, b⟩ := g1
      rw [un_succ, un_zero] at b
      have : mz (u2 (u2 h)) = 0 := by unfold mz; rw [if_neg b]
      omega
    | succ d =>
      have h1 := dz_min (gd_succ g1)
      have h2 := mz_dz (u2 (u2 h))
      omega
/-- what falls with each round: h the hash, r how many bytes are left -/
noncomputable def ms (h r : Nat) : Nat := if r = 0 then mz h else 100000000000000000 + r
theorem ms_pos {h h' r r' : Nat} (hr : r ≠ 0) (h1 : r' < r) : ms h' r' < ms h r := by
  unfold ms
  rw [if_neg hr]
  have := mz_le h'
  split <;> omega
theorem ms_u {h : Nat} (hz : yt h % 3 = 0) : ms (u2 h) 0 < ms h 0 := by unfold ms; rw [if_pos rfl, if_pos rfl]; exact mz_u hz
theorem ms_uu {h : Nat} (hz : yt h % 3 = 0) : ms (u2 (u2 h)) 0 < ms h 0 := by unfold ms; rw [if_pos rfl, if_pos rfl]; exact mz_uu hz
theorem u2_itn (h : Nat) : u2 (u2 h) = itn 4 h := by
  have e := un_itn 2 h
  rw [un_succ, un_succ, un_zero] at e
  exact e
/-- what holds of the text's length: n the length -/
def LenI (h r n : Nat) : Prop := n + r ≤ 2000000 ∨ (r = 0 ∧ ∃ j h0, h = itn (4 * j) h0 ∧ (∀ i, i < j → yt (itn (4 * i) h0) % 3 = 0) ∧ n ≤ 2000000 + j)
theorem LenI.le {h r n : Nat} (hl : LenI h r n) : n ≤ 2150270080 := by
  rcases hl with hl | ⟨-, j, h0, -, hj, hn⟩
  · omega
  · obtain ⟨m, m4, mle, hm⟩ := soon (nx h0)
    obtain ⟨i, rfl⟩ : ∃ i, m = 4 * i := ⟨m / 4, by omega⟩
    have e : yt (itn (4 * i) h0) = yb (itn (4 * i) (nx h0)) := by
      rw [yt, ← itn_one (itn (4 * i) h0), ← itn_add, Nat.add_comm, itn_add, itn_one]
    rcases Nat.lt_or_ge i j with hi | hi
    · exact absurd (e ▸ hj i hi) hm
    · omega
theorem LenI.bytes {h h' r r' n n' : Nat} (hl : LenI h r n) (hr : r ≠ 0) (h1 : r' < r) (h2 : n' ≤ n + 1) : LenI h' r' n' := by
  rcases hl with hl | ⟨e, -⟩
  · exact .inl (by omega)
  · exact absurd e hr
theorem LenI.four {h n n' : Nat} (hl : LenI h 0 n) (hz : yt h % 3 = 0) (h2 : n' ≤ n + 1) : LenI (u2 (u2 h)) 0 n' := by
  rw [u2_itn]
  rcases hl with hl | ⟨-, j, h0, rfl, hj, hn⟩
  · refine .inr ⟨rfl, 1, h, rfl, fun i hi => ?_, by omega⟩
    have : i = 0 := by omega
    subst this
    rw [show 4 * 0 = 0 from rfl, itn_zero]
    exact hz
  · refine .inr ⟨rfl, j + 1, h0, (itn_sum _ _ _ _ (by omega)).symm, fun i hi => ?_, by omega⟩
    rcases Nat.lt_or_ge i j with h' | h'
    · exact hj i h'
    · have : i = j := by omega
      subst this
      exact hz
theorem LenI.small (h n : Nat) (hn : n ≤ 2000000) : LenI h 0 n := .inl (by omega)
end Go.Proofs.YtnnfjjadehgmeaaGreatDoor

set_option maxRecDepth 100000
set_option linter.unusedVariables false
set_option linter.unusedSimpArgs false
namespace Go.Proofs.YtnnfjjadehgmeaaGreatDoor
open Go.RowKit

/-- the source, its hash and the number of bytes left -/
def SrcX (w : World) (B : Nat) (t : TypeId) (p h r : Nat) : Prop := ∃ (A : Option Addr) (n c k : Nat), Blk w p t #[.slice A n c, .int .i64 k, .int .u64 (h : Nat)] ∧ B ≤ p ∧ ByB w B A n ∧ k ≤ n ∧ n ≤ 1000000 ∧ r + k = n ∧ h < 18446744073709551616
theorem SrcX.src {w : World} {B p h r : Nat} {t : TypeId} (s : SrcX w B t p h r) : Src w B t p := by
  obtain ⟨A, n, c, k, h1, h2, h3, h4, h5, h6, h7⟩ := s
  exact ⟨A, n, c, k, (h : Nat), h1, h2, h3, h4, h5, by omega, by omega⟩
theorem Src.srcX {w : World} {B p : Nat} {t : TypeId} (s : Src w B t p) : ∃ h r, r ≤ 1000000 ∧ SrcX w B t p h r := by
  obtain ⟨A, n, c, k, h, h1, h2, h3, h4, h5, h6, h7⟩ := s
  obtain ⟨m, rfl⟩ : ∃ m : Nat, h = m := ⟨h.toNat, by omega⟩
  exact ⟨m, n - k, by omega, A, n, c, k, h1, h2, h3, h4, h5, by omega, by omega⟩
theorem SrcX.lt {w : World} {B p h r : Nat} {t : TypeId} (s : SrcX w B t p h r) : p < w.heap.size := s.src.lt
theorem nx_int (h : Nat) : IntKind.u64.wrap (IntKind.u64.wrap ((h : Int) * 6364136223846793005) + 1442695040888963407) = ((nx h : Nat) : Int) := by
  rw [nx_eq, IntKind.wrap_u64, IntKind.wrap_u64]
  omega
theorem nx_lt (h : Nat) : nx h < 18446744073709551616 := by
  rw [nx_eq]
  generalize h * 6364136223846793005 + 1442695040888963407 = x
  omega
theorem yb_int (x : Nat) (hx : x < 18446744073709551616) : bits BinOp.and IntKind.u64 (((x : Nat) : Int) / 8589934592) 16777215 = ((yb x : Nat) : Int) := by
  have h := bits_and_u64_nat (x / 8589934592) 16777215 (by omega) (by omega)
  have e : x / 8589934592 &&& 16777215 = yb x := by
    have := Nat.and_two_pow_sub_one_eq_mod (x / 8589934592) 24
    unfold yb
    exact this
  rw [e] at h
  have e2 : ((x / 8589934592 : Nat) : Int) = ((x : Nat) : Int) / 8589934592 := by omega
  rw [e2] at h
  rw [show (16777215 : Int) = ((16777215 : Nat) : Int) from rfl]
  exact h
set_option maxHeartbeats 4000000 in
theorem s_l01NextG (w : World) (B p : Nat) (n : Int) (h r x y : Nat) (hs : SrcX w B tSc p h r) (hn : n ≤ 4611686018427387904) (hn0 : 1 ≤ n)
    (hxI : IntKind.u64.wrap (IntKind.u64.wrap ((h : Int) * 6364136223846793005) + 1442695040888963407) = ((x : Nat) : Int)) (hyI : bits BinOp.and IntKind.u64 (((x : Nat) : Int) / 8589934592) 16777215 = ((y : Nat) : Int)) (hxl : x < 18446744073709551616) (hyb : y < 16777216) :
    Calls Tryz.prog 36 #[at0 p, .int .i64 n] w fun e w' => ∃ z : Nat, e = .returned (.int .i64 (((y + z : Nat) : Int) % n)) ∧ (r = 0 → z = 0) ∧ z ≤ 255 ∧ w.grownBy w' (some p) ∧ SrcX w' B tSc p x (r - 1) := by
  obtain ⟨A, m, c, k, hk, hB, hby, hkm, hm, hr, h1⟩ := hs
  have HK := Lib.hid hk
  have HBY := Lib.hid hby
  have k2 : w.cell? ⟨p, 2, none⟩ = some (.int .u64 (h : Nat)) := hk.cell 2
  have f2 : w.frozen? ⟨p, 2, none⟩ = false := hk.frozen 2
  clear hk hby
  go_enter Tryz.func36, Tryz.ntmps36
  go_upto_region 5 with fail
  have HNL := Lib.hid hxl
  clear h1 f2 k2 hxI hyI hxl
  have HK1 := Lib.hid (HK.out.set_ 2 (.int .u64 ((x : Nat) : Int)))
  have HG1 := Lib.hid (gset w p 2 (.int .u64 ((x : Nat) : Int)))
  generalize w.setCell ⟨p, 2, none⟩ (.int .u64 (x : Nat)) = w1 at HK1 HG1 ⊢
  generalize ((x : Nat) : Int) / 8589934592 = x9
  generalize IntKind.u64.wrap ((h : Int) * 6364136223846793005) = x8
  have HBY1 := Lib.hid (HBY.out.grown HG1.out hB)
  have HK1 := Lib.hid (show Blk w1 p tSc #[.slice A m c, .int .i64 k, .int .u64 (x : Nat)] from HK1.out)
  have k0 : w1.cell? ⟨p, 0, none⟩ = some (.slice A m c) := HK1.out.cell 0
  have k1 : w1.cell? ⟨p, 1, none⟩ = some (.int .i64 k) := HK1.out.cell 1
  have f1 : w1.frozen? ⟨p, 1, none⟩ = false := HK1.out.frozen 1
  clear HK HBY
  by_cases hlt : k < m
  · obtain ⟨ad, z, rfl, a1, a2, z0, z1, hc⟩ := HBY1.out k hlt
    have hkk : (k : Int) < (m : Int) := by omega
    have hw1 : wrap64 ((y : Nat) + z) = (y : Nat) + z := w64_dr _ (by omega)
    have hwk : wrap64 ((k : Int) + 1) = (k : Int) + 1 := w64_dr _ (by omega)
    clear a1 a2
    go_quiet (fail)
    go_upto_region 6 with fail
    rename Nat => nq0
    have k0' : (w1.drewN nq0).cell? ⟨p, 0, none⟩ = some (.slice (some ad) m c) := k0
    have k1' : (w1.drewN nq0).cell? ⟨p, 1, none⟩ = some (.int .i64 k) := k1
    have hc' : (w1.drewN nq0).cell? (ad.add k) = some (.int .u8 z) := hc
    go_quiet (fail)
    go_wp2_with fail
    go_ret
    have HB2 : w1.grownBy ((w1.drewN (nq0 + nq)).setCell ⟨p, 1, none⟩ (.int .i64 ((k : Int) + 1))) (some p) := gtrans (gof (below_drewN (Below.refl _ _) _)) (gset _ _ _ _)
    obtain ⟨z', rfl⟩ : ∃ m : Nat, z = m := ⟨z.toNat, by omega⟩
    exact ⟨z', by push_cast; rfl, fun e => by omega, by omega, gtrans HG1.out HB2, some ad, m, c, k + 1, by simpa using (HK1.out.drewN _).set_ 1 (.int .i64 ((k : Int) + 1)), hB, HBY1.out.grown HB2 hB, hlt, hm, by omega, HNL.out⟩
  · have hkk : ¬ ((k : Int) < (m : Int)) := by omega
    go_quiet (fail)
    go_wp2_with fail
    go_ret
    rename Nat => nq0
    have HB2 : w1.grownBy (w1.drewN nq0) (some p) := gof (below_drewN (Below.refl _ _) _)
    exact ⟨0, rfl, fun _ => rfl, by omega, gtrans HG1.out HB2, A, m, c, k, HK1.out.drewN _, hB, HBY1.out.grown HB2 hB, hkm, hm, by omega, HNL.out⟩
theorem s_l01NextX (w : World) (B p : Nat) (n : Int) (h r : Nat) (hs : SrcX w B tSc p h r) (hn : n ≤ 4611686018427387904) (hn0 : 1 ≤ n) :
    Calls Tryz.prog 36 #[at0 p, .int .i64 n] w fun e w' => ∃ z : Nat, e = .returned (.int .i64 (((yb (nx h) + z : Nat) : Int) % n)) ∧ (r = 0 → z = 0) ∧ z ≤ 255 ∧ w.grownBy w' (some p) ∧ SrcX w' B tSc p (nx h) (r - 1) :=
  s_l01NextG w B p n h r (nx h) (yb (nx h)) hs hn hn0 (nx_int h) (yb_int (nx h) (nx_lt h)) (nx_lt h) (yb_lt (nx h))
end Go.Proofs.YtnnfjjadehgmeaaGreatDoor

set_option maxRecDepth 100000
set_option linter.unusedVariables false
set_option linter.unusedSimpArgs false
namespace Go.Proofs.YtnnfjjadehgmeaaGreatDoor
open Go.RowKit

/-- the cells of a literal list behind changes of another block -/
theorem lit_cell (w : World) (vs : List Value) (t : TypeId) (p : Nat) (hp : p < w.heap.size) (W : World) (hg : (w.alloc (.cells vs.toArray t)).grownBy W (some p)) (k : Nat) (hk : k < vs.length) :
    W.cell? ((⟨w.heap.size, 0, none⟩ : Addr).add k) = vs[k]? := by
  have h0 : (w.alloc (.cells vs.toArray t)).heap[w.heap.size]? = some (.cells vs.toArray t (0, 0)) := by
    show (w.heap.push _)[w.heap.size]? = _
    simp
  have hb := hg.block w.heap.size (by show w.heap.size < (w.heap.push _).size; simp) (fun e => by injection e with e; omega)
  rw [h0] at hb
  have e := addr_add w.heap.size k
  rw [e]
  unfold World.cell?
  simp only [hb]
  simp
/-- a text that is damaged at place k -/
theorem dmg_len (t : List UInt8) (k : Nat) (hk : k < t.length) (b : UInt8) : (t.take k ++ [b] ++ t.drop (k + 1)).length ≤ t.length + 1 ∧ (t.take k ++ t.drop (k + 1)).length ≤ t.length + 1 ∧ (t.take k ++ [b] ++ t.drop k).length ≤ t.length + 1 := by
  simp only [List.length_append, List.length_take, List.length_drop, List.length_singleton]
  omega
def sgnB : List UInt8 := [48, 49, 50, 55, 57, 45, 47, 32, 44, 59, 124, 58, 46, 43, 42, 120, 121, 104, 97, 40, 41, 10]
theorem sgn_at {k : Nat} (hk : k < 22) : ∃ b, (sgnB.map fun b => strB [b])[k]? = some (strB [b]) := by
  have hk' : k < sgnB.length := hk
  refine ⟨sgnB[k], ?_⟩
  rw [List.getElem?_map, List.getElem?_eq_getElem hk']
  rfl
theorem SrcX.below {w w' : World} {B p h r : Nat} {t : TypeId} (s : SrcX w B t p h r) (hb : Below w.heap.size w w') : SrcX w' B t p h r := by
  obtain ⟨A, n, c, k, hk, hB, hby, h1⟩ := s
  refine ⟨A, n, c, k, (hb.block p hk.lt).trans hk, hB, fun j hj => ?_, h1⟩
  obtain ⟨ad, z, rfl, a1, a2, z0, z1, hc⟩ := hby j hj
  refine ⟨ad, z, rfl, a1, Nat.lt_of_lt_of_le a2 hb.size, z0, z1, ?_⟩
  rw [hb.cell (by rw [block_add]; exact a2)]
  exact hc
theorem pick_nat (x n : Nat) (hn : 1 ≤ n) : ∃ k : Nat, ((x : Nat) : Int) % (n : Int) = k ∧ k < n := ⟨x % n, by omega, Nat.mod_lt _ (by omega)⟩
theorem pick22 (x : Nat) : ∃ k : Nat, ((x : Nat) : Int) % 22 = k ∧ k < 22 := ⟨x % 22, by omega, by omega⟩
theorem pick3 (x : Nat) : ∃ k : Nat, ((x : Nat) : Int) % 3 = k ∧ k < 3 := ⟨x % 3, by omega, by omega⟩
set_option maxHeartbeats 4000000 in
theorem s_l01Damage (w : World) (B p h r : Nat) (t : List UInt8) (hs : SrcX w B tSc p h r) (hl : t.length ≤ 4294950000) :
    Calls Tryz.prog 37 #[at0 p, strB t] w fun e w' => ∃ t' : List UInt8, e = .returned (strB t') ∧ w.grownBy w' (some p) ∧ ((t = [] ∧ t'.length = 1 ∧ SrcX w' B tSc p (nx h) (r - 1)) ∨ (t ≠ [] ∧ t'.length ≤ t.length + 1 ∧ SrcX w' B tSc p (nx (nx (nx h))) (r - 1 - 1 - 1))) := by
  have hpl := hs.lt
  have HS := Lib.hid hs
  clear hs
  go_enter Tryz.func37, Tryz.ntmps37
  go_upto_region 2 with fail
  obtain ⟨W, hW⟩ : ∃ W, W = w.alloc (Obj.cells #[Value.string ⟨#[48]⟩, Value.string ⟨#[49]⟩, Value.string ⟨#[50]⟩, Value.string ⟨#[55]⟩, Value.string ⟨#[57]⟩, Value.string ⟨#[45]⟩, Value.string ⟨#[47]⟩, Value.string ⟨#[32]⟩, Value.string ⟨#[44]⟩, Value.string ⟨#[59]⟩, Value.string ⟨#[124]⟩, Value.string ⟨#[58]⟩, Value.string ⟨#[46]⟩, Value.string ⟨#[43]⟩, Value.string ⟨#[42]⟩, Value.string ⟨#[120]⟩, Value.string ⟨#[121]⟩, Value.string ⟨#[104]⟩, Value.string ⟨#[97]⟩, Value.string ⟨#[40]⟩, Value.string ⟨#[41]⟩, Value.string ⟨#[10]⟩] tStr) := ⟨_, rfl⟩
  rw [← hW]
  have HBW := Lib.hid (show Below w.heap.size w W from by rw [hW]; exact below1 w _)
  have HSW := Lib.hid (HS.out.below HBW.out)
  have HC := Lib.hid (show ∀ W1, W.grownBy W1 (some p) → ∀ k, k < 22 → ∃ b, W1.cell? ((⟨w.heap.size, 0, none⟩ : Addr).add k) = some (strB [b]) from fun W1 hg k hk => by
    obtain ⟨b, hb⟩ := sgn_at hk
    refine ⟨b, ?_⟩
    rw [hW] at hg
    rw [← hb]
    exact lit_cell w (sgnB.map fun b => strB [b]) tStr p hpl W1 hg k hk)
  have hpW : p < W.heap.size := Nat.lt_of_lt_of_le hpl HBW.out.size
  generalize (⟨w.heap.size, 0, none⟩ : Addr) = ad at HC ⊢
  clear hW HS
  have HN1 := Lib.hid (s_l01NextX W B p 22 h r HSW.out (by omega) (by omega))
  go_upto_region 3 with (go_at_call 36; go_loud (refine HN1.out.mono ?_; rintro e w1 ⟨z, rfl, -, -, hg, hs1⟩; obtain ⟨k, hk, hk22⟩ := pick22 (yb (nx h) + z); (rw [hk]); obtain ⟨b, hc⟩ := HC.out w1 hg k hk22; have HG1 := Lib.hid (gtrans (gof (r := some p) HBW.out) hg); have HS1 := Lib.hid hs1; clear hg hs1 hk))
  have hpl1 := HS1.out.lt
  obtain ⟨h1, hh1⟩ : ∃ h1, h1 = nx h := ⟨_, rfl⟩
  rw [← hh1] at HS1
  have HH1 := Lib.hid hh1
  clear HN1 HSW HC hc hh1
  by_cases ht : t = []
  · subst ht
    go_wp2_with fail
    go_ret
    exact ⟨[b], rfl, HG1.out, ⟨rfl, by have y := HS1.out; rw [HH1.out] at y; exact y⟩⟩
  · have hlen : 1 ≤ t.length := by cases t with | nil => exact absurd rfl ht | cons a l => simp
    have hl0 : ((t.length : Int) == 0) = false := by simp; exact ht
    have hl0' : (t.length == 0) = false := by simp; exact ht
    have HT := Lib.hid ht
    clear ht
    have HN2 := Lib.hid (s_l01NextX w1 B p (t.length : Nat) h1 (r - 1) HS1.out (by omega) (by omega))
    go_upto_region 6 with (go_at_call 36; go_loud (refine HN2.out.mono ?_; rintro e w2 ⟨z2, rfl, -, -, hg, hs2⟩; obtain ⟨j, hj, hjl⟩ := pick_nat (yb (nx h1) + z2) t.length (by omega); (rw [hj]); have HG2 := Lib.hid (gtrans HG1.out hg); have HS2 := Lib.hid hs2; clear hg hs2 hj))
    have hpl2 := HS2.out.lt
    obtain ⟨h2, hh2⟩ : ∃ h2, h2 = nx h1 := ⟨_, rfl⟩
    rw [← hh2] at HS2
    have HH2 := Lib.hid hh2
    clear HN2 hh2
    have HN3 := Lib.hid (s_l01NextX w2 B p 3 h2 (r - 1 - 1) HS2.out (by omega) (by omega))
    go_upto_region 7 with (go_at_call 36; go_loud (refine HN3.out.mono ?_; rintro e w3 ⟨z3, rfl, -, -, hg, hs3⟩; obtain ⟨m, hm, hm3⟩ := pick3 (yb (nx h2) + z3); (rw [hm]); have HG3 := Lib.hid (gtrans HG2.out hg); have HS3 := Lib.hid hs3; clear hg hs3 hm))
    have hex0 : (⟨t.toArray⟩ : ByteArray).extract 0 j = ⟨(t.take j).toArray⟩ := str_ex t 0 j
    have hex1 : (⟨t.toArray⟩ : ByteArray).extract (j + 1) t.length = ⟨(t.drop (j + 1)).toArray⟩ := by
      rw [str_ex, List.take_of_length_le (by rw [List.length_drop]; exact Nat.le_refl _)]
    have hex2 : (⟨t.toArray⟩ : ByteArray).extract j t.length = ⟨(t.drop j).toArray⟩ := by
      rw [str_ex, List.take_of_length_le (by rw [List.length_drop]; exact Nat.le_refl _)]
    obtain ⟨d1, d2, d3⟩ := dmg_len t j hjl b
    have lA : (t.take j).length ≤ 4294950000 := by rw [List.length_take]; omega
    have lD1 : (t.drop (j + 1)).length ≤ 4294950000 := by rw [List.length_drop]; omega
    have lD2 : (t.drop j).length ≤ 4294950000 := by rw [List.length_drop]; omega
    have hjw : wrap64 ((j : Int) + 1) = (j : Int) + 1 := w64_dr _ (by omega)
    generalize t.take j = A at *
    generalize t.drop (j + 1) = D1 at *
    generalize t.drop j = D2 at *
    have hb1 : ¬ (9223372036854775807 < A.length + 1) := by omega
    have hb2 : ¬ (9223372036854775807 < A.length + 1 + D1.length) := by omega
    have hb3 : ¬ (9223372036854775807 < A.length + D1.length) := by omega
    have hb4 : ¬ (9223372036854775807 < A.length + 1 + D2.length) := by omega
    have hc1 := str_cat2 b A
    have hc2 := str_cat (A ++ [b]) D1
    have hc3 := str_cat A D1
    have hc4 := str_cat (A ++ [b]) D2
    have HD := Lib.hid (And.intro d1 (And.intro d2 d3))
    clear d1 d2 d3
    by_cases m0 : m = 0
    · have hd : ((m : Int) == 0) = true := by simp [m0]
      clear m0
      go_upto_region 8 with fail
      go_quiet (fail)
      go_wp2_with fail
      go_ret
      exact ⟨A ++ b :: D1, rfl, gtrans HG3.out (gof (below_drewN (Below.refl _ _) _)), .inr ⟨HT.out, by have y := HD.out.1; simpa using y, by have y := HS3.out.below (below_drewN (Below.refl _ _) nq); rw [HH2.out, HH1.out] at y; exact y⟩⟩
    · by_cases m1 : m = 1
      · have hd : ((m : Int) == 0) = false := by simp [m1]
        have hd1 : ((m : Int) == 1) = true := by simp [m1]
        clear m0 m1
        go_upto_region 10 with fail
        go_quiet (fail)
        go_wp2_with fail
        go_ret
        exact ⟨A ++ D1, rfl, gtrans HG3.out (gof (below_drewN (Below.refl _ _) _)), .inr ⟨HT.out, HD.out.2.1, by have y := HS3.out.below (below_drewN (Below.refl _ _) nq); rw [HH2.out, HH1.out] at y; exact y⟩⟩
      · have hd : ((m : Int) == 0) = false := by simp; exact m0
        have hd1 : ((m : Int) == 1) = false := by simp; omega
        clear m0 m1
        go_upto_region 11 with fail
        go_quiet (fail)
        go_wp2_with fail
        go_ret
        exact ⟨A ++ b :: D2, rfl, gtrans HG3.out (gof (below_drewN (Below.refl _ _) _)), .inr ⟨HT.out, by have y := HD.out.2.2; simpa using y, by have y := HS3.out.below (below_drewN (Below.refl _ _) nq); rw [HH2.out, HH1.out] at y; exact y⟩⟩
end Go.Proofs.YtnnfjjadehgmeaaGreatDoor

