/- One great call of head.Encode, reckoned by itself. -/
import Derived.Test.YtenfmojgfngpkaaHdTab2
import Derived.Test.YtenfmojgfngpkaaPeFrame
set_option linter.unusedVariables false
namespace Go.Proofs.Ytenfmojgfngpkaa.Pe
noncomputable def eqInts (cs : List C) : List Int → Bool := List.rec (motive := fun _ => List Int → Bool) (fun zs => List.rec (motive := fun _ => Bool) true (fun _ _ _ => false) zs)
  (fun x _ ih zs => List.rec (motive := fun _ => Bool) false (fun z zs' _ => C.rec (motive := fun _ => Bool) false (fun k n => bif Nat.beq k.ctorIdx (IntKind.i64).ctorIdx && eqI n z then ih zs' else false) (fun _ => false) (fun _ => false) false (fun _ _ => false) (fun _ _ _ => false) false (fun _ _ _ _ => false) (fun _ _ _ _ => false) (fun _ _ _ _ _ => false) false (fun _ => false) x) zs) cs
theorem eqInts_ok : ∀ (cs : List C) (zs : List Int), eqInts cs zs = true → cs = zs.map (C.i .i64)
  | [], [], _ => rfl
  | [], _ :: _, h => by cases h
  | x :: cs, [], h => by cases h
  | x :: cs, z :: zs, h => by
    cases x with
    | i k n =>
      have h : (bif Nat.beq k.ctorIdx (IntKind.i64).ctorIdx && eqI n z then eqInts cs zs else false) = true := h
      cases hq : (Nat.beq k.ctorIdx (IntKind.i64).ctorIdx && eqI n z) with
      | false => rw [hq] at h; cases h
      | true =>
        rw [hq] at h
        simp only [Bool.and_eq_true, eqI_eq, beq_iff_eq] at hq
        rw [ctor_eq hq.1, hq.2, eqInts_ok cs zs h]
        rfl
    | _ => cases h
def LAY : List Int := [2000, 256, 60, 1, 257, 4, 261, 1, 262]
def ALL : List Int := [1999, 1998, 1997, 1996, 1995, 1994, 1993, 1992, 1991, 1990, 1989, 1988, 1987, 1986, 1985, 1984, 1983, 1982, 1981, 1980, 1979, 1978, 1977, 1976, 1975, 1974, 1973, 1972, 1971, 1970, 1969, 1968, 1967, 1966, 1965, 1964, 1963, 1962, 1961, 1960, 1959, 1958, 1957, 1956, 1955, 1954, 1953, 1952, 1951, 1950, 1949, 1948, 1947, 1946, 1945, 1944, 1943, 1942, 1941, 1940, 1939, 1938, 1937, 1936, 1935, 1934, 1933, 1932, 1931, 1930, 1929, 1928, 1927, 1926, 1925, 1924, 1923, 1922, 1921, 1920, 1919, 1918, 1917, 1916, 1915, 1914, 1913, 1912, 1911, 1910, 1909, 1908, 1907, 1906, 1905, 1904, 1903, 1902, 1901, 1900, 1899, 1898, 1897, 1896, 1895, 1894, 1893, 1892, 1891, 1890, 1889, 1888, 1887, 1886, 1885, 1884, 1883, 1882, 1881, 1880, 1879, 1878, 1877, 1876, 1875, 1874, 1873, 1872, 1871, 1870, 1869, 1868, 1867, 1866, 1865, 1864, 1863, 1862, 1861, 1860, 1859, 1858, 1857, 1856, 1855, 1854, 1853, 1852, 1851, 1850, 1849, 1848, 1847, 1846, 1845, 1844, 1843, 1842, 1841, 1840, 1839, 1838, 1837, 1836, 1835, 1834, 1833, 1832, 1831, 1830, 1829, 1828, 1827, 1826, 1825, 1824, 1823, 1822, 1821, 1820, 1819, 1818, 1817, 1816, 1815, 1814, 1813, 1812, 1811, 1810, 1809, 1808, 1807, 1806, 1805, 1804, 1803, 1802, 1801, 1800, 1799, 1798, 1797, 1796, 1795, 1794, 1793, 1792, 1791, 1790, 1789, 1788, 1787, 1786, 1785, 1784, 1783, 1782, 1781, 1780, 1779, 1778, 1777, 1776, 1775, 1774, 1773, 1772, 1771, 1770, 1769, 1768, 1767, 1766, 1765, 1764, 1763, 1762, 1761, 1760, 1759, 1758, 1757, 1756, 1755, 1754, 1753, 1752, 1751, 1750, 1749, 1748, 1747, 1746, 1745]
def bytes4 (v : Int) : List C := [byteC v 0, byteC v 1, byteC v 2, byteC v 3]
noncomputable def encAll : List C := List.rec (motive := fun _ => List C) [] (fun z _ ih => byteC z 0 :: byteC z 1 :: byteC z 2 :: byteC z 3 :: ih) (255 :: ALL)
set_option maxRecDepth 100000 in
theorem cEnc : (evG T F 100000 g25 60 6 [.ag 9 (LAY.map (C.i .i64)), .ag 1 [.sl 0 0 255 255]] [.row false (ALL.map (C.i .i64)) 255 1 1 3]).map (·.1) = some (.t [.ag 1024 encAll, .c (.i .i64 0)]) := by kernel_rfl
end Go.Proofs.Ytenfmojgfngpkaa.Pe
